/-
  Layer 6: a store is opened.
  Layer 6: the reference's pairs.
  Layer 6: the reference's Put.
-/
import Derived.Test.YtjjejkhekmpgcaaGreatMsF
import Derived.Deep.CutBlock
namespace Go.Proofs.YtjjejkhekmpgcaaGreat
set_option maxRecDepth 4000
open Go.RowKit

theorem sumC_append (a b : List Chg) : sumC (a ++ b) = sumC a + sumC b := by
  induction a with
  | nil => simp [sumC]
  | cons c a ih => rw [List.cons_append, sumC_cons, sumC_cons, ih]; omega
/-- what a record says is no more than it is long -/
theorem rdC_ok : ∀ (f : Nat) (s : ByteArray) (e : Int) (acc : List Chg), (rdC f s e acc).2 = true → (∀ c ∈ acc, mayC c = true) →
    (∀ c ∈ (rdC f s e acc).1, mayC c = true) ∧ sumC (rdC f s e acc).1 ≤ sumC acc + s.size ∧ (rdC f s e acc).1.length ≤ acc.length + s.size
  | 0, _, _, _, h, _ => by simp [rdC] at h
  | f + 1, s, e, acc, h, ha => by
    unfold rdC at h ⊢
    by_cases h0 : e = 0 ∧ 0 < s.size
    · rw [if_pos h0] at h ⊢
      have h1 := txt_size2 s e
      obtain ⟨k, s1, e1, hk⟩ : ∃ k s1 e1, txtR s e = (k, s1, e1) := ⟨_, _, _, rfl⟩
      rw [hk] at h h1 ⊢
      have h2 := num_size s1 e1
      obtain ⟨n, s2, e2, hn⟩ : ∃ n s2 e2, numR s1 e1 = (n, s2, e2) := ⟨_, _, _, rfl⟩
      dsimp only at h h1 h2 ⊢
      rw [hn] at h h2 ⊢
      dsimp only at h h2 ⊢
      have h3 : (if n = 0 then txtR s2 e2 else (⟨#[]⟩, s2, e2)).1.size + (if n = 0 then txtR s2 e2 else (⟨#[]⟩, s2, e2)).2.1.size ≤ s2.size := by
        split
        · exact txt_size2 s2 e2
        · show 0 + s2.size ≤ s2.size; omega
      generalize (if n = 0 then txtR s2 e2 else (⟨#[]⟩, s2, e2)) = v at h h3 ⊢
      by_cases h4 : 1 < n ∨ mayC ⟨k, v.1, decide (n = 1)⟩ = false
      · rw [if_pos h4] at h; cases h
      · rw [if_neg h4] at h ⊢
        have hm : mayC ⟨k, v.1, decide (n = 1)⟩ = true := by
          cases hx : mayC ⟨k, v.1, decide (n = 1)⟩ with
          | true => rfl
          | false => exact absurd (.inr hx) h4
        have hk1 : 1 ≤ k.size := (mayC_sizes hm).1
        obtain ⟨r1, r2, r3⟩ := rdC_ok f v.2.1 v.2.2 (acc ++ [⟨k, v.1, decide (n = 1)⟩]) h (fun c hc => by
          rcases List.mem_append.1 hc with hc | hc
          · exact ha c hc
          · rw [List.mem_singleton.1 hc]; exact hm)
        rw [sumC_append, sumC_cons] at r2
        rw [List.length_append, List.length_singleton] at r3
        have h9 : sumC [] = 0 := rfl
        dsimp only at r2
        exact ⟨r1, by omega, by omega⟩
    · rw [if_neg h0] at h ⊢
      exact ⟨ha, by dsimp only; omega, by dsimp only; omega⟩
theorem readC_ok {s : ByteArray} (h : (readC s).2 = true) : (∀ c ∈ (readC s).1, mayC c = true) ∧ sumC (readC s).1 ≤ s.size ∧ (readC s).1.length ≤ s.size := by
  obtain ⟨h1, h2, h3⟩ := rdC_ok _ s 0 [] h (fun c hc => by cases hc)
  have h9 : sumC [] = 0 := rfl
  rw [h9] at h2
  exact ⟨h1, by unfold readC; omega, by unfold readC; simpa using h3⟩

/-- what records leave -/
def openM : List ByteArray → Kv → Option Kv
  | [], M => some M
  | r :: rs, M => if (readC r).2 = true then openM rs (afterM M (readC r).1) else none
def sumS (l : List ByteArray) : Nat := (l.map (·.size)).sum
theorem sumS_take (l : List ByteArray) : ∀ k, k < l.length → sumS (l.take (k + 1)) = sumS (l.take k) + (l.getD k ⟨#[]⟩).size := by
  intro k hk
  unfold sumS
  rw [List.take_succ_eq_append_getElem hk, List.map_append, List.sum_append]
  simp [List.getD_eq_getElem?_getD, List.getElem?_eq_getElem hk]
theorem sumS_le (l : List ByteArray) : ∀ k, sumS (l.take k) ≤ sumS l := by
  intro k
  unfold sumS
  rw [← List.take_append_drop k l, List.map_append, List.sum_append, List.take_append_drop]
  simp
theorem sumS_mem {l : List ByteArray} {s : ByteArray} (h : s ∈ l) : s.size ≤ sumS l := by
  unfold sumS
  induction l with
  | nil => cases h
  | cons a l ih =>
    rw [List.map_cons, List.sum_cons]
    rcases List.mem_cons.1 h with rfl | h
    · omega
    · have := ih h; omega
/-- what opening answers, and leaves -/
def SOpenPost (p : Nat) (F : Nat → Prop) (w : World) (st : Dk) (qt : Int) (R : Option Kv) (e : Ending) (w' : World) : Prop :=
  Below w.heap.size w w' ∧ match R with
    | none => e = .returned (.tuple #[.pointer none, .int .i64 6])
    | some M => ∃ q jq b, e = .returned (.tuple #[.pointer (some ⟨q, 0, none⟩), .int .i64 0]) ∧ w.heap.size ≤ q ∧ w.heap.size ≤ jq ∧ w.heap.size ≤ b ∧ StoAt w' q jq b p F st (openJ st) M qt false ∧ KvOk M

theorem sopen_arg (d : Option Addr) (qt : Int) (w : World) (hq : qt < 0 ∨ 1048576 < qt) :
    Calls Tryz.prog 10 #[.pointer d, .int .i64 qt] w fun e w' => e = .returned (.tuple #[.pointer none, .int .i64 2]) ∧ Below w.heap.size w w' := by
  have HB := fun w' (hb : Below w.heap.size w w') => Lib.hid hb
  by_cases h1 : qt < 0
  · go_enter Tryz.func10, Tryz.ntmps10
    go_wp2_with fail
    go_ret2
    exact ⟨rfl, by first | exact Below.refl _ _ | exact (Below.refl _ _).drew⟩
  · have h2 : (1048576 : Int) < qt := by omega
    clear hq
    go_enter Tryz.func10, Tryz.ntmps10
    go_wp2_with fail
    go_ret2
    exact ⟨rfl, by first | exact Below.refl _ _ | exact (Below.refl _ _).drew⟩

theorem chgs_fresh {w : World} {base e : Nat} {v : Value} {l : List Chg} (h : w.ownsRow base e 3 v l.length (l.flatMap chgv)) : ∃ ad cap, v = .slice ad l.length cap ∧ chgsAt w ad l ∧ (l ≠ [] → ∀ a, ad = some a → base ≤ a.block) := by
  obtain ⟨ad, cap, rfl, h2⟩ := chgsAt_own h
  refine ⟨ad, cap, rfl, h2, fun _ a ha => ?_⟩
  subst ha
  exact (World.ownsRow.lt h a.block rfl).1

set_option maxHeartbeats 8000000 in
theorem sopen_walk (p : Nat) (F : Nat → Prop) (st : Dk) (qt : Int) (rs : List ByteArray) (w : World) (h : Disk w p F st) (h4 : 4 ≤ st.S.length) (hz : (holdsR st).2 = 0) (hf : readR (recB st) = (rs, 0))
    (hq0 : 0 ≤ qt) (hq1 : qt ≤ 1048576) (hs : sumS rs ≤ 900000) (hl : rs.length ≤ 1000000) :
    Calls Tryz.prog 10 #[.pointer (some ⟨p, 0, none⟩), .int .i64 qt] w fun e w' => SOpenPost p F w st qt (openM rs []) e w' := by
  have KO := Lib.hid (open2_good p F st w h h4 hz (by rw [hf]))
  rw [hf] at KO
  obtain ⟨R, hR⟩ : ∃ R, R = openM rs [] := ⟨_, rfl⟩
  rw [← hR]
  have HH := Lib.hid h; have HS := Lib.hid hs; have HL := Lib.hid hl; have HR := Lib.hid hR
  clear h h4 hz hf hs hl hR
  go_enter Tryz.func10, Tryz.ntmps10
  go_wp2_with fail
  refine KO.out.mono ?_
  rintro e w1 ⟨jq, ad, cap, rfl, hjq, hjn, hst, hcap, hcap2, hb1, had⟩
  have HB1 := Lib.hid hb1; have HJQ := Lib.hid hjq; have HJN := Lib.hid hjn; have HST := Lib.hid hst; have HAD := Lib.hid had
  clear KO hb1 hjq hjn hst had hcap hcap2
  have hmm := @run_makeMap Tryz.prog
  go_upto_region 7 with fail
  obtain ⟨mb, hmb⟩ : ∃ mb, mb = w1.heap.size := ⟨_, rfl⟩
  rw [← hmb]
  have m1 : MapL Tryz.prog 9 (w1.alloc (.map #[] 0)) mb (fun _ => none) 0 := by rw [hmb]; exact MapL.made w1 Tryz.prog 9
  have s1 : (w1.alloc (.map #[] 0)).heap.size = mb + 1 := by rw [hmb]; simp
  have b1 : Below mb w1 (w1.alloc (.map #[] 0)) := by rw [hmb]; exact (Below.refl _ _).alloc (Nat.le_refl _) _
  generalize w1.alloc (.map #[] 0) = w2 at m1 s1 b1 ⊢
  have g2 := heap_alloc_top w2 (.cells (stv (.pointer (some ⟨jq, 0, none⟩)) mb 0 qt false) 76)
  have m2 := m1.same (heap_alloc_lt w2 (.cells (stv (.pointer (some ⟨jq, 0, none⟩)) mb 0 qt false) 76) mb m1.lt)
  have b2 := b1.alloc (by omega) (.cells (stv (.pointer (some ⟨jq, 0, none⟩)) mb 0 qt false) 76)
  rw [s1] at g2
  have e2 : (w2.alloc (.cells #[.pointer (some ⟨jq, 0, none⟩), .map (some mb), .int .i64 0, .int .i64 qt, .bool false] 76)) = w2.alloc (.cells (stv (.pointer (some ⟨jq, 0, none⟩)) mb 0 qt false) 76) := rfl
  rw [e2]
  generalize w2.alloc (.cells (stv (.pointer (some ⟨jq, 0, none⟩)) mb 0 qt false) 76) = w3 at g2 m2 b2 ⊢
  obtain ⟨sq, hsq⟩ : ∃ sq, sq = mb + 1 := ⟨_, rfl⟩
  rw [← hsq] at g2 ⊢
  have hjm : jq < mb := by have := lt_of_block HJN.out; omega
  have hO3 : StrO w3 ad rs (fun k => k = sq ∨ k = mb) := by
    rcases HST.out with h0 | ⟨b', off, h1, h2, h3⟩
    · exact .inl h0
    · have hb3 : b' < mb := by omega
      exact .inr ⟨b', off, h1, by have := b2.size; omega, fun hk => hk.elim (fun h => by omega) (fun h => by omega), fun i hi => (b2.cell (p := ⟨b', off + i, none⟩) hb3).trans (h3 i hi)⟩
  have hB3 : Below w.heap.size w w3 := HB1.out.trans (b2.mono (by have := HB1.out.size; omega))
  have hj3 : JnAt w3 jq p (openJ st) := (b2.block jq hjm).trans HJN.out
  have hwm : w.heap.size ≤ mb := by have := HB1.out.size; omega
  have HMB := Lib.hid (And.intro hjm (And.intro hwm hsq)); have G3 := Lib.hid g2; have M3 := Lib.hid m2; have O3 := Lib.hid hO3; have B3 := Lib.hid hB3; have J3 := Lib.hid hj3
  clear hmb m1 s1 b1 g2 m2 b2 e2 hsq hjm hO3 hB3 hj3 hwm hmm HST HAD HB1 HJN
  have hl : rs.length ≤ 1000000 := HL.out
  obtain ⟨m, hm⟩ : ∃ m, m = rs.length := ⟨_, rfl⟩
  have hl : m ≤ 1000000 := by rw [hm]; exact HL.out
  have HMR := Lib.hid hm
  rw [← hm]
  clear hm
  go_wp2_with fail
  go_loopg [36] m (fun gk v36 wr => ∃ (k : Nat) (M : Kv), k + gk = m ∧ v36 = .int .i64 k ∧ openM (rs.drop k) M = R ∧ KvOk M ∧ bytesM M ≤ sumS (rs.take k) ∧ wr.heap[sq]? = some (.cells (stv (.pointer (some ⟨jq, 0, none⟩)) mb (bytesM M) qt false) 76 (0, 0)) ∧
    MapM wr mb M ∧ StrO wr ad rs (fun k => k = sq ∨ k = mb) ∧ JnAt wr jq p (openJ st) ∧ Below w.heap.size w wr)
  case atStart => exact ⟨0, [], by omega, rfl, HR.out.symm, ok_nil, Nat.zero_le _, G3.out, M3.out.congr (fun z _ => by cases z <;> rfl) rfl, O3.out, J3.out, B3.out⟩
  case round =>
    clear G3 M3 O3 J3 B3 HR
    obtain ⟨k, M, hgk, rfl, hop, hok, hby, hcs, hmp, hso, hjn, hbl⟩ := hrel
    have HGK := Lib.hid hgk; have HOP := Lib.hid hop; have HOK := Lib.hid hok; have HBY := Lib.hid hby; have HCS := Lib.hid hcs; have HMP := Lib.hid hmp; have HSO := Lib.hid hso; have HJN := Lib.hid hjn; have HBL := Lib.hid hbl
    clear hgk hop hok hby hcs hmp hso hjn hbl
    by_cases hk : k < m
    · have hkr : k < rs.length := by have := HMR.out; omega
      have hk' : (k : Int) < (m : Int) := by omega
      obtain ⟨b', off, rfl, hce⟩ : ∃ b' off, ad = some ⟨b', off, none⟩ ∧ wr.cell? ⟨b', off + k, none⟩ = some (.string rs[k]) := by
        rcases HSO.out with h0 | ⟨b', off, h1, h2, h3, h5⟩
        · rw [h0] at hkr; simp at hkr
        · exact ⟨b', off, h1, h5 k hkr⟩
      have hsz := sumS_take rs k hkr
      have hsl := sumS_le rs (k + 1)
      rw [List.getD_eq_getElem?_getD, List.getElem?_eq_getElem hkr, Option.getD_some] at hsz
      have hop : (if (readC rs[k]).2 = true then openM (rs.drop (k + 1)) (afterM M (readC rs[k]).1) else none) = R := by
        have := HOP.out
        rw [List.drop_eq_getElem_cons hkr] at this
        exact this
      obtain ⟨s, hs⟩ : ∃ s, s = rs[k] := ⟨_, rfl⟩
      rw [← hs] at hce hop hsz
      have hss := HS.out
      have KRD := Lib.hid (sread_walk s wr (by omega))
      obtain ⟨RC, hRC⟩ : ∃ x, x = readC s := ⟨_, rfl⟩
      have hrk : RC.2 = true → (∀ c ∈ RC.1, mayC c = true) ∧ sumC RC.1 ≤ s.size ∧ RC.1.length ≤ s.size := by rw [hRC]; exact readC_ok
      rw [← hRC] at KRD hop
      clear hRC hs HOP
      obtain ⟨cs, ok⟩ := RC
      have HOP := Lib.hid hop; have HRK := Lib.hid hrk; have HSZ := Lib.hid hsz; have HSL := Lib.hid hsl
      clear hop hrk hsz hsl hss hkr hk
      go_wp2_with fail
      refine KRD.out.mono ?_
      rintro e w4 ⟨v, rfl, hb4, hrow⟩
      cases ok with
      | false =>
        obtain rfl : none = R := HOP.out
        have B4 := Lib.hid (HBL.out.trans (hb4.mono HBL.out.size))
        clear hb4 hrow HOP HRK
        go_wp2_with fail
        go_ret2
        exact ⟨B4.out, rfl⟩
      | true =>
        obtain ⟨ad2, cap2, rfl, hat, hfr⟩ := chgs_fresh (hrow rfl)
        obtain ⟨r1, r2, r3⟩ := HRK.out rfl
        have hok := HOP.out
        replace hok : openM (List.drop (k + 1) rs) (afterM M cs) = R := hok
        have hlb := len_bytes HOK.out
        have hby := HBY.out; have hsz := HSZ.out; have hsl := HSL.out; have hss := HS.out
        have hba := bytes_after HOK.out.ris cs
        have h2 := HMB.out
        have hsq := lt_of_block HCS.out
        have KD := Lib.hid (sdo_walk sq mb _ (bytesM M) qt false M ad2 cap2 cs w4 ((hb4.block sq hsq).trans HCS.out) (MapL.same HMP.out (hb4.block mb HMP.out.lt)) HOK.out.ris hat (by omega) (fun c hc => by have := mayC_sizes (r1 c hc); omega) (by omega) (by omega)
          (fun h0 a ha => by have := hfr h0 a ha; omega) (by omega))
        rw [show (bytesM M : Int) + ((bytesM (afterM M cs) : Int) - (bytesM M : Int)) = (bytesM (afterM M cs) : Int) by omega, IntWalk.i64_in _ (by omega)] at KD
        have B4 := Lib.hid (HBL.out.trans (hb4.mono HBL.out.size))
        have J4 := Lib.hid ((hb4.block jq (lt_of_block HJN.out)).trans HJN.out)
        have S4 := Lib.hid (HSO.out.step (Stp.ofBelow _ hb4))
        have OK2 := Lib.hid (ok_after HOK.out r1)
        have BY2 := Lib.hid (show bytesM (afterM M cs) ≤ sumS (rs.take (k + 1)) by omega)
        have OP2 := Lib.hid hok
        clear hok hlb hby hsz hsl hss hba h2 hsq r1 r2 r3 hat hfr hb4 hrow HOP HRK HJN HBL HSO HMP HCS HBY HSZ HSL
        go_wp2_with fail
        refine KD.out.mono ?_
        rintro e w5 ⟨rfl, h5, h6, h7⟩
        have h2 := HMB.out
        have J5 := Lib.hid (show JnAt w5 jq p (openJ st) from (h7.block jq (lt_of_block J4.out) (fun h => h.elim (fun e => by omega) (fun e => by omega))).trans J4.out)
        have S5 := Lib.hid (S4.out.step ⟨h7, fun k h => .inl h⟩)
        have B5 := Lib.hid (h7.below B4.out B4.out.size (fun k hk => hk.elim (fun e => by omega) (fun e => by omega)))
        have C5 := Lib.hid h5; have M5 := Lib.hid h6
        clear h5 h6 h7 h2 KD J4 S4 B4
        go_wp2_with fail
        go_roundg (gk - 1)
        case measure => have := HGK.out; omega
        case rel => exact ⟨k + 1, afterM M cs, by have := HGK.out; omega, by first | rfl | (congr 1; omega), OP2.out, OK2.out, BY2.out, C5.out, M5.out, S5.out, J5.out, B5.out⟩
    · have hkm : k = m := by have := HGK.out; omega
      have hk' : ¬ (k : Int) < (m : Int) := by omega
      have hop := HOP.out
      rw [List.drop_eq_nil_of_le (by have := HMR.out; omega)] at hop
      obtain rfl : some M = R := hop
      have hx := HMB.out
      have hs : w.heap.size ≤ sq := by omega
      have hd := HH.out
      have hF := hd.lt
      have hsto : StoAt wr sq jq mb p F st (openJ st) M qt false := ⟨hd.below HBL.out, HJN.out, HCS.out, HMP.out, fun h => by have := hF _ h; have := HJQ.out; omega, fun h => by have := hF _ h; omega, fun h => by have := hF _ h; omega, by omega, by omega, by omega⟩
      have HF := Lib.hid (show SOpenPost p F w st qt (some M) (.returned (.tuple #[.pointer (some ⟨sq, 0, none⟩), .int .i64 0])) wr from ⟨HBL.out, sq, jq, mb, rfl, hs, HJQ.out, hx.2.1, hsto, HOK.out⟩)
      clear hx hs hd hF hsto hkm hk HOP HCS HMP HSO HJN HBL HBY HOK
      go_wp2_with fail
      go_ret2
      exact HF.out
end Go.Proofs.YtjjejkhekmpgcaaGreat

namespace Go.Proofs.YtjjejkhekmpgcaaGreat
set_option maxRecDepth 4000
open Go.RowKit

def kvv (p : ByteArray × ByteArray) : List Value := [.string p.1, .string p.2]
theorem info_kv2 : (Tryz.prog.info? 40).map (fun i => (i.zero, i.size, i.bytes)) = some (some (.agg #[.string ⟨#[]⟩, .string ⟨#[]⟩]), 2, 32) := by kernel_rfl
theorem kvv_one (l : Kv) : ∀ u ∈ l.flatMap kvv, u.oneCell' = true := by
  intro u hu
  obtain ⟨f, _, hf⟩ := List.mem_flatMap.1 hu
  simp only [kvv, List.mem_cons, List.not_mem_nil, or_false] at hf
  rcases hf with rfl | rfl <;> rfl
theorem kvv_len : ∀ l : Kv, (l.flatMap kvv).length = l.length * 2
  | [] => rfl
  | a :: l => by rw [List.flatMap_cons, List.length_append, kvv_len l]; simp [kvv]; omega
theorem at2 : ∀ (l : Kv) (i : Nat) (hi : i < l.length) (j : Nat) (u : Value), (kvv l[i])[j]? = some u → (l.flatMap kvv)[i * 2 + j]? = some u
  | [], i, hi, _, _, _ => by simp at hi
  | a :: l, 0, _, j, u, hu => by
    have hj : j < (kvv a).length := by
      rcases Nat.lt_or_ge j (kvv a).length with hj | hj
      · exact hj
      · rw [List.getElem?_eq_none (by simpa using hj)] at hu; cases hu
    rw [List.flatMap_cons, List.getElem?_append_left (by omega)]
    simpa using hu
  | a :: l, i + 1, hi, j, u, hu => by
    have hg : (kvv a).length = 2 := rfl
    rw [List.flatMap_cons, List.getElem?_append_right (by rw [hg]; omega), show (i + 1) * 2 + j - (kvv a).length = i * 2 + j by rw [hg]; omega]
    exact at2 l i (by simpa using hi) j u (by simpa using hu)
theorem at2_inv : ∀ (l : Kv) (j : Nat) (u : Value), (l.flatMap kvv)[j]? = some u → ∃ (h : j / 2 < l.length), (kvv l[j / 2])[j % 2]? = some u
  | [], j, u, h => by simp at h
  | a :: l, j, u, h => by
    have hg : (kvv a).length = 2 := rfl
    rw [List.flatMap_cons] at h
    by_cases hj : j < 2
    · rw [List.getElem?_append_left (by omega)] at h
      have e1 : j / 2 = 0 := by omega
      have e2 : j % 2 = j := by omega
      refine ⟨by rw [e1]; simp, ?_⟩
      rw [e2]
      simpa [e1] using h
    · rw [List.getElem?_append_right (by omega), hg] at h
      obtain ⟨h1, h2⟩ := at2_inv l (j - 2) u h
      have e1 : j / 2 = (j - 2) / 2 + 1 := by omega
      have e2 : j % 2 = (j - 2) % 2 := by omega
      refine ⟨by rw [e1, List.length_cons]; omega, ?_⟩
      rw [e2]
      simp only [e1, List.getElem_cons_succ]
      exact h2
/-- pairs that lie outside of a footprint -/
def KvO (w : World) (ad : Option Addr) (l : Kv) (G : Nat → Prop) : Prop := l = [] ∨ ∃ b off, ad = some ⟨b, off, none⟩ ∧ b < w.heap.size ∧ ¬ G b ∧ ∀ i (h : i < l.length), ∀ (j : Nat) (u : Value), (kvv l[i])[j]? = some u → w.cell? ⟨b, off + i * 2 + j, none⟩ = some u
theorem KvO.step {w w' : World} {ad : Option Addr} {l : Kv} {G G' : Nat → Prop} (h : KvO w ad l G) (hs : Stp G w G' w') : KvO w' ad l G' := by
  rcases h with h | ⟨b, off, h1, h2, h3, h4⟩
  · exact .inl h
  · refine .inr ⟨b, off, h1, Nat.lt_of_lt_of_le h2 hs.touch.size, fun hf => (hs.new b hf).elim h3 (fun h => by omega), fun i hi j u hu => ?_⟩
    rw [hs.touch.cellOf (a := ⟨b, off + i * 2 + j, none⟩) h2 h3]
    exact h4 i hi j u hu
theorem KvO.below {w w' : World} {ad : Option Addr} {l : Kv} {G : Nat → Prop} (h : KvO w ad l G) (hb : Below w.heap.size w w') : KvO w' ad l G := h.step (Stp.ofBelow _ hb)
theorem KvO.any {w : World} {ad : Option Addr} {l : Kv} {G : Nat → Prop} (h : KvO w ad l G) : KvO w ad l (fun _ => False) := by
  rcases h with h | ⟨b, off, h1, h2, _, h4⟩
  · exact .inl h
  · exact .inr ⟨b, off, h1, h2, fun h => h, h4⟩
/-- pairs in a row of our own -/
def KvRow (w : World) (base : Nat) (v : Value) (l : Kv) : Prop := w.ownsRow base 40 2 v l.length (l.flatMap kvv)
theorem KvRow.nil (w : World) (base : Nat) : KvRow w base (.slice none 0 0) [] := World.ownsRow_nil _ _ _ _
theorem KvRow.keep {w w' : World} {base B : Nat} {v : Value} {l : Kv} (h : KvRow w base v l) (hb : Below B w w') (hB : w.heap.size ≤ B) : KvRow w' base v l := own_below h hb hB
theorem KvRow.at {w : World} {base : Nat} {v : Value} {l : Kv} (h : KvRow w base v l) : ∃ ad cap, v = .slice ad l.length cap ∧ l.length ≤ cap ∧ cap ≤ 9223372036854775807 ∧ ∀ G : Nat → Prop, (∀ k, G k → k < base) → KvO w ad l G := by
  rcases h.2 with ⟨h1, h2⟩ | ⟨g, cap, cur, rfl, hb, hg, h3, h4, h5, h6⟩
  · refine ⟨none, 0, by rw [h1, h2], by omega, by omega, fun G _ => .inl (List.eq_nil_of_length_eq_zero h2)⟩
  · refine ⟨some ⟨g, 0, none⟩, cap, rfl, h3, by unfold maxLen at h4; omega, fun G hG => .inr ⟨g, 0, rfl, lt_of_block hg, fun hk => by have := hG g hk; omega, fun i hi j u hu => ?_⟩⟩
    have hj : j < 2 := by
      rcases Nat.lt_or_ge j 2 with hj | hj
      · exact hj
      · rw [List.getElem?_eq_none (by simpa [kvv] using hj)] at hu; cases hu
    rw [cell_of_row w g _ _ _ _ hg]
    have e1 : (cur.toList.take (l.length * 2))[i * 2 + j]? = (l.flatMap kvv)[i * 2 + j]? := by rw [h6]
    rw [List.getElem?_take_of_lt (by omega)] at e1
    rw [← Array.getElem?_toList, show 0 + i * 2 + j = i * 2 + j by omega, e1]
    exact at2 l i hi j u hu
theorem src_kv {w : World} {ad : Option Addr} {l : Kv} {G : Nat → Prop} (h : KvO w ad l G) (cap : Nat) : Src Tryz.prog 2 32 (.slice ad l.length cap) l.length (l.flatMap kvv) w := by
  rcases h with rfl | ⟨b, off, rfl, h2, _, h3⟩
  · cases ad with
    | none => exact Src.ofNil w Tryz.underlying32 cap
    | some a => exact Src.ofSlice w Tryz.underlying32 a 0 cap [] rfl (fun j u hj => by simp at hj) (fun u hu => by cases hu)
  · refine Src.ofSlice w Tryz.underlying32 ⟨b, off, none⟩ l.length cap _ (kvv_len l) (fun j u hj => ?_) (kvv_one l)
    have e : (⟨b, off, none⟩ : Addr).add j = ⟨b, off + j, none⟩ := by unfold Addr.add; split <;> simp_all
    rw [e]
    obtain ⟨h4, h5⟩ := at2_inv l j u hj
    have := h3 (j / 2) h4 (j % 2) u h5
    rwa [show off + j / 2 * 2 + j % 2 = off + j by omega] at this
theorem wpList_append_kv {ops : Array Oper} {rest : List Oper} {o : Oper} {a : Act} {w : World} {Q : Exit → Act → World → Prop} (hgd : o.guard = none) (s x : Operand)
    (ho : o.op = .call { callee := .builtin .append, args := #[s, x], argTypes := #[32, 32] })
    (base : Nat) (v : Value) (l : Kv) (hs : a.eval s = v) (hrow : KvRow w base v l)
    (xv : Value) (c : Kv) (hx : a.eval x = xv) (hsrc : Src Tryz.prog 2 32 xv c.length (c.flatMap kvv) w)
    (hlen : l.length + c.length ≤ 2000000000000) (hbase : base ≤ w.heap.size)
    (h : ∀ v' w', KvRow w' base v' (l ++ c) → w.grownBy w' v.ownBlock → (v'.ownBlock = v.ownBlock ∨ ∀ k, v'.ownBlock = some k → w.heap.size ≤ k) → wpList Tryz.prog ops Q rest (a.put o.dst v') w') : wpList Tryz.prog ops Q (o :: rest) a w := by
  obtain ⟨i0, hi, hz0, hz1, hz2⟩ := info_parts info_kv2
  refine wpList_append_at w hgd s x 32 32 ho base 40 i0 (.agg #[.string ⟨#[]⟩, .string ⟨#[]⟩]) 2 32 Tryz.underlying32 hi hz0 hz1 hz2 rfl (by decide) v l.length _ hs hrow xv c.length _ hx hsrc (by unfold maxLen; omega) (by omega) hbase fun v' w' h1 h2 h3 => h v' w' ?_ h2 h3
  unfold KvRow
  rw [List.length_append, List.flatMap_append]
  exact h1
theorem kv_one_at {w : World} {p : Nat} {c : ByteArray × ByteArray} {t : TypeId} (hb : w.heap[p]? = some (.cells #[.string c.1, .string c.2] t (0, 0))) : KvO w (some ⟨p, 0, none⟩) [c] (fun _ => False) :=
  .inr ⟨p, 0, rfl, lt_of_block hb, fun h => h, fun i hi j u hu => by
    have : i = 0 := by simpa using hi
    subst this
    rw [cell_of_row w p _ _ _ _ hb]
    have hu : [Value.string c.1, .string c.2][j]? = some u := hu
    rw [show 0 + 0 * 2 + j = j by omega]
    simpa using hu⟩

theorem str_neq {a b : ByteArray} (h : ¬ a = b) : (a.toList == b.toList) = false := by
  rw [ByteArray.toList_eq, ByteArray.toList_eq]
  simp only [beq_eq_false_iff_ne, ne_eq]
  exact fun e => h (bytes_ext e)
theorem wrap_sum (a b c : Nat) (h : a + b = c) (hc : c ≤ 9223372036854775807) : wrap64 ((a : Int) + (b : Int)) = (c : Int) := by
  rw [wrap_int _ (by omega)]; omega

set_option maxHeartbeats 4000000 in
theorem rdrop_walk (ad : Option Addr) (cap : Nat) (M : Kv) (k : ByteArray) (w : World) (h : KvO w ad M (fun _ => False)) (hl : M.length ≤ 100000000) :
    Calls Tryz.prog 38 #[.slice ad M.length cap, .string k] w fun e w' => ∃ v, e = .returned v ∧ KvRow w' w.heap.size v (dropM M k) ∧ Below w.heap.size w w' := by
  obtain ⟨q, hq⟩ : ∃ q, q = w.heap.size := ⟨_, rfl⟩
  rw [← hq]
  have HH := Lib.hid h; have HQ := Lib.hid hq
  obtain ⟨n, hn⟩ : ∃ n, n = M.length := ⟨_, rfl⟩
  rw [← hn] at hl ⊢
  have HN := Lib.hid hn
  clear h hq hn
  go_enter Tryz.func38, Tryz.ntmps38
  go_wp2_with fail
  go_loopg [5, 6] n (fun gk v5 v6 wr => ∃ i, i + gk = n ∧ v6 = .int .i64 i ∧ KvRow wr q v5 (dropM (M.take i) k) ∧ Below q w wr)
  case atStart => exact ⟨0, by omega, rfl, KvRow.nil _ _, by rw [HQ.out]; exact Below.refl _ _⟩
  case round =>
    obtain ⟨i, hgk, rfl, hrow, hb⟩ := hrel
    have HGK := Lib.hid hgk; have HB := Lib.hid hb; have HR := Lib.hid hrow
    clear hgk hb hrow
    by_cases hi : i < n
    · have hiM : i < M.length := by have := HN.out; omega
      have hi' : (i : Int) < (n : Int) := by omega
      have hdl : (dropM (M.take i) k).length ≤ i := by
        unfold dropM
        refine Nat.le_trans (List.length_filter_le _ _) ?_
        rw [List.length_take]; omega
      have htk : dropM (M.take (i + 1)) k = if M[i].1 = k then dropM (M.take i) k else dropM (M.take i) k ++ [M[i]] := by
        unfold dropM
        rw [List.take_succ_eq_append_getElem hiM, List.filter_append]
        by_cases hk : M[i].1 = k
        · rw [if_pos hk]; simp [hk]
        · rw [if_neg hk]; simp [hk]
      rcases HH.out with h0 | ⟨b, off, rfl, hbl, _, hce⟩
      · rw [h0] at hiM; simp at hiM
      have hcw : ∀ (j : Nat) (u : Value), (kvv M[i])[j]? = some u → wr.cell? ⟨b, off + i * 2 + j, none⟩ = some u := fun j u hu => (HB.out.cell (p := ⟨b, off + i * 2 + j, none⟩) (by rw [HQ.out]; exact hbl)).trans (hce i hiM j u hu)
      obtain ⟨⟨ki, vi⟩, hki⟩ : ∃ p, p = M[i] := ⟨_, rfl⟩
      rw [← hki] at hcw htk
      have c0 : wr.cell? ⟨b, off + i * 2, none⟩ = some (.string ki) := hcw 0 (.string ki) rfl
      have c1 : wr.cell? ⟨b, off + i * 2 + 1, none⟩ = some (.string vi) := hcw 1 (.string vi) rfl
      have HCW := Lib.hid hcw; have HTK := Lib.hid htk; have HDL := Lib.hid hdl
      clear hki hcw htk hdl hce hiM hbl
      by_cases hk : ki = k
      · subst hk
        have htk := HTK.out
        simp only [if_true] at htk
        have HT2 := Lib.hid htk
        clear htk HTK
        go_wp2_with fail
        go_roundg (gk - 1)
        case measure => have := HGK.out; omega
        case rel => exact ⟨i + 1, by have := HGK.out; omega, by first | rfl | (congr 1; omega), by rw [HT2.out]; exact HR.out, HB.out⟩
      · have htk := HTK.out
        rw [if_neg hk] at htk
        have hkb := str_neq hk
        have HT2 := Lib.hid htk
        clear htk HTK
        go_wp2_with (at_builtin; refine wpList_append_kv rfl _ _ rfl q _ (dropM (M.take i) k) rfl (World.ownsRow.alloc HR.out _) _ [(ki, vi)] rfl (src_kv (kv_one_at (p := wr.heap.size) (c := (ki, vi)) (heap_alloc_top _ _)) 1) ?_ ?_ ?_)
        · have := HDL.out; simp; omega
        · have := HB.out.size; have := HQ.out; simp; omega
        intro v8 w8 hr8 hg8 _
        have hrow7 : KvRow (wr.alloc (.cells #[.string ki, .string vi] 40)) q u5 (dropM (M.take i) k) := World.ownsRow.alloc HR.out _
        have hb8 := below_of_grown (HB.out.alloc (by have := HB.out.size; have := HQ.out; omega) (.cells #[.string ki, .string vi] 40)) hg8 (by have := HB.out.size; have := HQ.out; simp; omega) (fun j hj => by have := (hrow7.lt j hj).1; omega)
        rw [← HT2.out] at hr8
        have M1 := Lib.hid hr8; have M2 := Lib.hid hb8
        clear hr8 hg8 hrow7 hb8
        go_wp2_with fail
        go_roundg (gk - 1)
        case measure => have := HGK.out; omega
        case rel => exact ⟨i + 1, by have := HGK.out; omega, by first | rfl | (congr 1; omega), M1.out, M2.out⟩
    · have hin : i = n := by have := HGK.out; omega
      have hi' : ¬ (i : Int) < (n : Int) := by omega
      have hr := HR.out
      rw [hin, HN.out, List.take_length] at hr
      have HR2 := Lib.hid hr
      clear hr HR hi hin
      go_wp2_with fail
      go_ret
      exact ⟨_, rfl, HR2.out, HB.out⟩

set_option maxHeartbeats 4000000 in
theorem rbytes_walk (ad : Option Addr) (cap : Nat) (M : Kv) (w : World) (h : KvO w ad M (fun _ => False)) (hl : bytesM M ≤ 1000000000000000) (hl2 : M.length ≤ 100000000) (hz : ∀ p ∈ M, p.1.size ≤ 1000000000 ∧ p.2.size ≤ 1000000000) :
    Calls Tryz.prog 37 #[.slice ad M.length cap] w fun e w' => e = .returned (.int .i64 (bytesM M)) ∧ Below w.heap.size w w' := by
  obtain ⟨q, hq⟩ : ∃ q, q = w.heap.size := ⟨_, rfl⟩
  rw [← hq]
  obtain ⟨T, hT⟩ : ∃ T, T = bytesM M := ⟨_, rfl⟩
  rw [← hT] at hl ⊢
  have HH := Lib.hid h; have HQ := Lib.hid hq; have HT := Lib.hid hT; have HZ := Lib.hid hz
  obtain ⟨n, hn⟩ : ∃ n, n = M.length := ⟨_, rfl⟩
  rw [← hn] at hl2 ⊢
  have HN := Lib.hid hn
  clear h hq hn hT hz
  go_enter Tryz.func37, Tryz.ntmps37
  go_wp2_with fail
  go_loopg [3, 4] n (fun gk v3 v4 wr => ∃ (i s : Nat), i + gk = n ∧ v4 = .int .i64 i ∧ v3 = .int .i64 s ∧ s + bytesM (M.drop i) = T ∧ Below q w wr)
  case atStart => exact ⟨0, 0, by omega, rfl, rfl, by rw [List.drop_zero, HT.out]; omega, by rw [HQ.out]; exact Below.refl _ _⟩
  case round =>
    obtain ⟨i, s, hgk, rfl, rfl, hs, hb⟩ := hrel
    have HGK := Lib.hid hgk; have HB := Lib.hid hb; have HS := Lib.hid hs
    clear hgk hb hs
    by_cases hi : i < n
    · have hiM : i < M.length := by have := HN.out; omega
      have hi' : (i : Int) < (n : Int) := by omega
      rcases HH.out with h0 | ⟨b, off, rfl, hbl, _, hce⟩
      · rw [h0] at hiM; simp at hiM
      have hcw : ∀ (w' : World), Below q w w' → ∀ (j : Nat) (u : Value), (kvv M[i])[j]? = some u → w'.cell? ⟨b, off + i * 2 + j, none⟩ = some u := fun w' hb j u hu => (hb.cell (p := ⟨b, off + i * 2 + j, none⟩) (by rw [HQ.out]; exact hbl)).trans (hce i hiM j u hu)
      have hzi := HZ.out M[i] (List.getElem_mem hiM)
      have hs := HS.out
      rw [List.drop_eq_getElem_cons hiM, bytes_cons] at hs
      obtain ⟨⟨ki, vi⟩, hki⟩ : ∃ p, p = M[i] := ⟨_, rfl⟩
      rw [← hki] at hcw hzi hs
      dsimp only at hzi hs
      have hbr : b < wr.heap.size := by have := HB.out.size; have := HQ.out; omega
      have c0 := sub_cell (hcw _ HB.out 0 (.string ki) rfl) hbr
      have c1 := sub_cell (hcw _ HB.out 1 (.string vi) rfl) hbr
      rw [Nat.add_zero] at c0
      obtain ⟨A, hA⟩ : ∃ A, A = s + ki.size := ⟨_, rfl⟩
      obtain ⟨B, hB⟩ : ∃ B, B = A + vi.size := ⟨_, rfl⟩
      have hA1 : A ≤ 9223372036854775807 := by omega
      have hB1 : B ≤ 9223372036854775807 := by omega
      replace hs : B + bytesM (M.drop (i + 1)) = T := by omega
      have HS2 := Lib.hid hs
      have hki1 : ki.size ≤ 9223372036854775807 := by omega
      have hvi1 : vi.size ≤ 9223372036854775807 := by omega
      have hw1 := wrap_sum s ki.size A hA.symm hA1
      have hw2 := wrap_sum A vi.size B hB.symm hB1
      clear hki hcw hce hiM hbl hs hzi hA hB hbr hA1 hB1
      go_upto_region 5 with fail
      refine wp_region_sub (W := wr) (B := wr.heap.size) (by kernel_rfl) (by kernel_rfl) (Below.refl _ _) ?_
      repeat (any_goals (first
        | go_big_quiet_skip
        | go_big_quiet_step (fail)
        | quiet_step (fail)))
      refine wpQuiet_nil ?_
      rintro w9 ⟨x9, rfl⟩
      have DB := Lib.hid (HB.out.trans (x9.below.mono (by rw [HQ.out]; exact HB.out.size)))
      have HW2 := Lib.hid hw2
      clear hw1 hw2
      go_wp2_with fail
      go_roundg (gk - 1)
      case measure => have := HGK.out; omega
      case rel => exact ⟨i + 1, B, by have := HGK.out; omega, by first | rfl | (congr 1; omega), congrArg (Value.int .i64) HW2.out, HS2.out, DB.out⟩
    · have hin : i = n := by have := HGK.out; omega
      have hi' : ¬ (i : Int) < (n : Int) := by omega
      have hs := HS.out
      rw [hin, HN.out, List.drop_length] at hs
      obtain rfl : s = T := by have : bytesM [] = 0 := rfl; omega
      clear hs hi hin HS
      go_wp2_with fail
      go_ret
      exact ⟨rfl, HB.out⟩

set_option maxHeartbeats 4000000 in
theorem rkeys_walk (ad : Option Addr) (cap : Nat) (M : Kv) (pf : ByteArray) (w : World) (h : KvO w ad M (fun _ => False)) (hl : M.length ≤ 100000000) (hp : pf.size ≤ 9223372036854775807) (hz : ∀ p ∈ M, p.1.size ≤ 1000000000) :
    Calls Tryz.prog 19 #[.slice ad M.length cap, .string pf] w fun e w' => ∃ v, e = .returned v ∧ Row w' w.heap.size v (keysM M pf) ∧ Below w.heap.size w w' := by
  obtain ⟨q, hq⟩ : ∃ q, q = w.heap.size := ⟨_, rfl⟩
  rw [← hq]
  have HH := Lib.hid h; have HQ := Lib.hid hq; have HZ := Lib.hid hz
  obtain ⟨n, hn⟩ : ∃ n, n = M.length := ⟨_, rfl⟩
  rw [← hn] at hl ⊢
  have HN := Lib.hid hn
  clear h hq hn hz
  go_enter Tryz.func19, Tryz.ntmps19
  go_wp2_with fail
  go_loopg [5, 7] n (fun gk v5 v7 wr => ∃ i, i + gk = n ∧ v7 = .int .i64 i ∧ Row wr q v5 (keysM (M.take i) pf) ∧ Below q w wr)
  case atStart => exact ⟨0, by omega, rfl, Row.nil _ _, by rw [HQ.out]; exact Below.refl _ _⟩
  case round =>
    obtain ⟨i, hgk, rfl, hrow, hb⟩ := hrel
    have HGK := Lib.hid hgk; have HB := Lib.hid hb; have HR := Lib.hid hrow
    clear hgk hb hrow
    by_cases hi : i < n
    · have hiM : i < M.length := by have := HN.out; omega
      have hi' : (i : Int) < (n : Int) := by omega
      have hdl : (keysM (M.take i) pf).length ≤ i := by
        unfold keysM
        rw [List.length_map]
        refine Nat.le_trans (List.length_filter_le _ _) ?_
        rw [List.length_take]; omega
      have htk : keysM (M.take (i + 1)) pf = if preB M[i].1 pf = true then keysM (M.take i) pf ++ [M[i].1] else keysM (M.take i) pf := by
        unfold keysM
        rw [List.take_succ_eq_append_getElem hiM, List.filter_append, List.map_append]
        by_cases hk : preB M[i].1 pf = true
        · rw [if_pos hk]; simp [hk]
        · rw [if_neg hk]; simp [hk]
      rcases HH.out with h0 | ⟨b, off, rfl, hbl, _, hce⟩
      · rw [h0] at hiM; simp at hiM
      have hcw : ∀ (j : Nat) (u : Value), (kvv M[i])[j]? = some u → wr.cell? ⟨b, off + i * 2 + j, none⟩ = some u := fun j u hu => (HB.out.cell (p := ⟨b, off + i * 2 + j, none⟩) (by rw [HQ.out]; exact hbl)).trans (hce i hiM j u hu)
      have hzi := HZ.out M[i] (List.getElem_mem hiM)
      obtain ⟨⟨ki, vi⟩, hki⟩ : ∃ p, p = M[i] := ⟨_, rfl⟩
      rw [← hki] at hcw htk hzi
      dsimp only at hzi
      have c0 : wr.cell? ⟨b, off + i * 2, none⟩ = some (.string ki) := hcw 0 (.string ki) rfl
      have HCW := Lib.hid hcw; have HTK := Lib.hid htk; have HDL := Lib.hid hdl
      clear hki hcw htk hdl hce hiM hbl
      by_cases hk : preB ki pf = true
      · have hk2 := hk
        unfold preB at hk2
        rw [Bool.and_eq_true] at hk2
        have hle : (pf.size : Int) ≤ (ki.size : Int) := by have := of_decide_eq_true hk2.1; omega
        have heq := hk2.2
        have htk := HTK.out
        rw [if_pos hk] at htk
        have HT2 := Lib.hid htk
        clear htk HTK hk2 hk
        go_wp2_with (at_builtin; refine wpList_append_row rfl _ _ rfl q _ _ rfl (World.ownsRow.alloc HR.out _) _ [ki] rfl (src_new ki _) ?_ ?_ ?_)
        · have := HDL.out; simp; omega
        · have := HB.out.size; have := HQ.out; simp; omega
        intro v8 w8 hr8 hg8 _
        have hrow7 : Row (wr.alloc (.cells #[.string ki] 9)) q u5 (keysM (M.take i) pf) := World.ownsRow.alloc HR.out _
        have hb8 := below_of_grown (HB.out.alloc (by have := HB.out.size; have := HQ.out; omega) (.cells #[.string ki] 9)) hg8 (by have := HB.out.size; have := HQ.out; simp; omega) (fun j hj => by have := (hrow7.lt j hj).1; omega)
        rw [← HT2.out] at hr8
        have M1 := Lib.hid hr8; have M2 := Lib.hid hb8
        clear hr8 hg8 hrow7 hb8
        go_wp2_with fail
        go_roundg (gk - 1)
        case measure => have := HGK.out; omega
        case rel => exact ⟨i + 1, by have := HGK.out; omega, by first | rfl | (congr 1; omega), M1.out, M2.out⟩
      · have htk := HTK.out
        rw [if_neg hk] at htk
        have HT2 := Lib.hid htk
        clear htk HTK
        by_cases hle : (pf.size : Int) ≤ (ki.size : Int)
        · have heq : ((ki.extract 0 pf.size).toList == pf.toList) = false := by
            unfold preB at hk
            rw [decide_eq_true (by omega), Bool.true_and] at hk
            simpa using hk
          clear hk
          go_wp2_with fail
          go_roundg (gk - 1)
          case measure => have := HGK.out; omega
          case rel => exact ⟨i + 1, by have := HGK.out; omega, by first | rfl | (congr 1; omega), by rw [HT2.out]; exact HR.out, HB.out⟩
        · clear hk
          go_wp2_with fail
          go_roundg (gk - 1)
          case measure => have := HGK.out; omega
          case rel => exact ⟨i + 1, by have := HGK.out; omega, by first | rfl | (congr 1; omega), by rw [HT2.out]; exact HR.out, HB.out⟩
    · have hin : i = n := by have := HGK.out; omega
      have hi' : ¬ (i : Int) < (n : Int) := by omega
      have hr := HR.out
      rw [hin, HN.out, List.take_length] at hr
      have HR2 := Lib.hid hr
      clear hr HR hi hin
      go_wp2_with fail
      go_ret
      exact ⟨_, rfl, HR2.out, HB.out⟩
end Go.Proofs.YtjjejkhekmpgcaaGreat

namespace Go.Proofs.YtjjejkhekmpgcaaGreat
set_option maxRecDepth 4000
open Go.RowKit

theorem ins_split : ∀ (D : Kv) (k v : ByteArray) (i : Nat), i ≤ D.length → (∀ j (h : j < D.length), j < i → ltK D[j].1 k) → (∀ h : i < D.length, ¬ ltK D[i].1 k) → D.take i ++ [(k, v)] ++ D.drop i = insM D k v
  | [], k, v, i, hi, _, _ => by
    have : i = 0 := by simpa using hi
    subst this
    rfl
  | p :: D, k, v, 0, _, _, h2 => by
    have := h2 (by simp)
    unfold insM
    rw [if_neg (by simpa using this)]
    rfl
  | p :: D, k, v, i + 1, hi, h1, h2 => by
    have := h1 0 (by simp) (by omega)
    unfold insM
    rw [if_pos (by simpa using this)]
    rw [List.take_succ_cons, List.drop_succ_cons, List.cons_append, List.cons_append]
    rw [ins_split D k v i (by simpa using hi) (fun j h hj => h1 (j + 1) (by simpa using h) (by omega)) (fun h => h2 (by simpa using h))]

theorem less_dec (a b : ByteArray) : Op.bytesLess a.toList b.toList = decide (ltK a b) := by
  rw [bytesLess_eq, Lib.toList_data, Lib.toList_data]
  rfl
theorem KvRow.made {w : World} {q : Nat} (hq : q ≤ w.heap.size) : KvRow (w.alloc (.cells #[] 40)) q (.slice (some ⟨w.heap.size, 0, none⟩) 0 0) [] :=
  ⟨rfl, .inr ⟨w.heap.size, 0, #[], rfl, hq, heap_alloc_top w _, Nat.le_refl _, Nat.zero_le _, rfl, rfl⟩⟩

theorem KvO.take {w : World} {ad : Option Addr} {l : Kv} {G : Nat → Prop} (h : KvO w ad l G) (i : Nat) : KvO w ad (l.take i) G := by
  rcases h with h | ⟨b, off, h1, h2, h3, h4⟩
  · exact .inl (by rw [h, List.take_nil])
  · refine .inr ⟨b, off, h1, h2, h3, fun k hk j u hu => h4 k (by rw [List.length_take] at hk; omega) j u (by rwa [List.getElem_take] at hu)⟩
theorem KvO.drop {w : World} {ad : Option Addr} {l : Kv} {G : Nat → Prop} (h : KvO w ad l G) (i : Nat) : KvO w (ad.map fun x => x.add (i * 2)) (l.drop i) G := by
  rcases h with h | ⟨b, off, h1, h2, h3, h4⟩
  · exact .inl (by rw [h, List.drop_nil])
  · refine .inr ⟨b, off + i * 2, by rw [h1]; show some (Addr.add _ _) = _; unfold Addr.add; split <;> simp_all, h2, h3, fun k hk j u hu => ?_⟩
    have := h4 (i + k) (by rw [List.length_drop] at hk; omega) j u (by rwa [List.getElem_drop] at hu)
    rwa [show off + (i + k) * 2 + j = off + i * 2 + k * 2 + j by omega] at this
theorem src_kv2 {w : World} {ad : Option Addr} {l : Kv} {G : Nat → Prop} (h : KvO w ad l G) (n cap : Nat) (hn : n = l.length) : Src Tryz.prog 2 32 (.slice ad n cap) l.length (l.flatMap kvv) w := by
  subst hn
  exact src_kv h cap

set_option maxHeartbeats 4000000 in
theorem rput_walk (ad : Option Addr) (cap : Nat) (M : Kv) (k v : ByteArray) (w : World) (h : KvO w ad M (fun _ => False)) (hl : M.length ≤ 100000000) :
    Calls Tryz.prog 39 #[.slice ad M.length cap, .string k, .string v] w fun e w' => ∃ x, e = .returned x ∧ KvRow w' w.heap.size x (putM M k v) ∧ Below w.heap.size w w' := by
  obtain ⟨q, hq⟩ : ∃ q, q = w.heap.size := ⟨_, rfl⟩
  have KD := Lib.hid (rdrop_walk ad cap M k w h hl)
  rw [← hq] at KD ⊢
  have HQ := Lib.hid hq
  obtain ⟨X, hX⟩ : ∃ X, X = putM M k v := ⟨_, rfl⟩
  rw [← hX]
  unfold putM at hX
  have hdl : (dropM M k).length ≤ 100000000 := Nat.le_trans (List.length_filter_le _ _) hl
  obtain ⟨D, hD⟩ : ∃ D, D = dropM M k := ⟨_, rfl⟩
  rw [← hD] at KD hX hdl
  have HX := Lib.hid hX; have HDL := Lib.hid hdl
  clear hq hX hD h hl hdl
  go_enter Tryz.func39, Tryz.ntmps39
  go_wp2_with fail
  refine KD.out.mono ?_
  rintro e w1 ⟨v0, rfl, hrow, hb1⟩
  obtain ⟨ad, cap, rfl, hc1, hc2, hko⟩ := hrow.at
  have hk := hko (fun _ => False) (fun _ h => h.elim)
  obtain ⟨n, hn⟩ : ∃ n, n = D.length := ⟨_, rfl⟩
  have hn1 : n ≤ 100000000 := by have := HDL.out; omega
  rw [← hn] at hc1 ⊢
  have HN := Lib.hid hn; have HK := Lib.hid hk; have HB1 := Lib.hid hb1
  clear hn hk hb1 hrow hko KD
  go_upto_block 0 with fail
  go_cut [7] from 12 to 42 (fun s7 wx => ∃ i : Nat, i ≤ n ∧ s7 = .int .i64 i ∧ D.take i ++ [(k, v)] ++ D.drop i = X ∧ KvO wx ad D (fun _ => False) ∧ Below q w wx)
  case first =>
    go_wp2_with fail
    go_loopg [7] n (fun gk v7 wr => ∃ i, i + gk = n ∧ v7 = .int .i64 i ∧ (∀ j (h : j < D.length), j < i → ltK D[j].1 k) ∧ KvO wr ad D (fun _ => False) ∧ Below q w wr)
    case atStart => exact ⟨0, by omega, rfl, fun j h hj => by omega, HK.out, HB1.out⟩
    case round =>
      obtain ⟨i, hgk, rfl, hlt, hko, hb⟩ := hrel
      have HGK := Lib.hid hgk; have HB := Lib.hid hb; have HKO := Lib.hid hko; have HLT := Lib.hid hlt
      clear hgk hb hko hlt HK HB1
      by_cases hi : i < n
      · have hiM : i < D.length := by have := HN.out; omega
        have hi' : (i : Int) < (n : Int) := by omega
        rcases HKO.out with h0 | ⟨b, off, rfl, hbl, _, hce⟩
        · rw [h0] at hiM; simp at hiM
        have c0 : wr.cell? ⟨b, off + i * 2, none⟩ = some (.string D[i].1) := hce i hiM 0 _ rfl
        obtain ⟨ki, hki⟩ : ∃ x, x = D[i].1 := ⟨_, rfl⟩
        rw [← hki] at c0
        have HKI := Lib.hid hki
        have hless := less_dec ki k
        clear hce hbl
        by_cases hk : ltK ki k
        · rw [decide_eq_true hk] at hless
          have HL2 := Lib.hid (show ∀ j (h : j < D.length), j < i + 1 → ltK D[j].1 k from fun j h hj => by
            rcases Nat.lt_or_ge j i with h3 | h3
            · exact HLT.out j h h3
            · obtain rfl : j = i := by omega
              rw [← hki]; exact hk)
          clear hki hk hi
          go_wp2_with fail
          go_roundg (gk - 1)
          case measure => have := HGK.out; omega
          case rel => exact ⟨i + 1, by have := HGK.out; omega, by first | rfl | (congr 1; omega), HL2.out, HKO.out, HB.out⟩
        · rw [decide_eq_false hk] at hless
          have HSP := Lib.hid (ins_split D k v i (by omega) HLT.out (fun h => by rw [← hki]; exact hk))
          clear hki hk hi
          go_wp2_with fail
          go_meet
          exact ⟨i, by have := HGK.out; omega, rfl, HSP.out.trans HX.out.symm, HKO.out, HB.out⟩
      · have hin : i = n := by have := HGK.out; omega
        have hi' : ¬ (i : Int) < (n : Int) := by omega
        have hi2 : decide ((i : Int) < (n : Int)) = false := decide_eq_false hi'
        have HSP := Lib.hid (ins_split D k v i (by have := HN.out; omega) HLT.out (fun h => by have := HN.out; omega))
        have HIN := Lib.hid hin
        clear hin hi
        go_wp2_with fail
        go_meet
        exact ⟨i, by have := HIN.out; omega, rfl, HSP.out.trans HX.out.symm, HKO.out, HB.out⟩
  case rest =>
  obtain ⟨i, hi, rfl, hsp, hko, hb⟩ := hcut
  have HI := Lib.hid hi; have HSP := Lib.hid hsp; have HKO := Lib.hid hko; have HB := Lib.hid hb
  have hi1 : (i : Int) ≤ (n : Int) := by omega
  have hi2 : (i : Int) ≤ (cap : Int) := by omega
  have hn2 : (n : Int) ≤ (cap : Int) := by omega
  clear hi hsp hko hb HK HB1 HX
  have hbq : q ≤ wc.heap.size := by have := HB.out.size; have := HQ.out; omega
  have HBQ := Lib.hid hbq
  have hti : i = (D.take i).length := by rw [List.length_take]; have := HN.out; have := HI.out; omega
  have hdi : n - i = (D.drop i).length := by rw [List.length_drop]; have := HN.out; omega
  have hd8 : D.length ≤ 100000000 := HDL.out
  have HTI := Lib.hid hti; have HDI := Lib.hid hdi
  have KM := Lib.hid (KvRow.made (w := wc) (Nat.le_refl wc.heap.size))
  have S1 := Lib.hid (src_kv2 ((HKO.out.take i).below ((Below.refl _ _).alloc (Nat.le_refl _) (.cells #[] 40))) i cap HTI.out)
  have BA := Lib.hid ((Below.refl wc.heap.size wc).alloc (Nat.le_refl _) (.cells #[] 40))
  clear hbq hti hdi hd8
  go_upto_region 5 with fail
  go_wp2_with (at_builtin; refine wpList_append_kv rfl _ _ rfl wc.heap.size _ [] rfl KM.out _ (D.take i) rfl S1.out ?_ ?_ ?_)
  · have := HTI.out; have := HI.out; simp; omega
  · simp
  intro v8 w8 hr8 hg8 _
  have hb8 := below_of_grown BA.out hg8 (by simp) (fun j hj => (KM.out.lt j hj).1)
  have R8 := Lib.hid hr8; have B8 := Lib.hid hb8
  clear hr8 hg8 hb8 KM S1 BA
  have S2 := Lib.hid (src_kv (kv_one_at (p := w8.heap.size) (c := (k, v)) (heap_alloc_top w8 (.cells #[.string k, .string v] 40))) 1)
  have hs8 : wc.heap.size ≤ w8.heap.size := B8.out.size
  have HS8 := Lib.hid hs8
  clear hs8
  go_wp2_with (at_builtin; refine wpList_append_kv rfl _ _ rfl wc.heap.size _ (D.take i) rfl (World.ownsRow.alloc R8.out _) _ [(k, v)] rfl S2.out ?_ ?_ ?_)
  · have := HTI.out; have := HI.out; simp; omega
  · have := HS8.out; simp; omega
  intro v9 w9 hr9 hg9 _
  have hrow8 : KvRow (w8.alloc (.cells #[.string k, .string v] 40)) wc.heap.size v8 (D.take i) := World.ownsRow.alloc R8.out _
  have hb9 := below_of_grown (B8.out.alloc HS8.out (.cells #[.string k, .string v] 40)) hg9 (by have := HS8.out; simp; omega) (fun j hj => (hrow8.lt j hj).1)
  have R9 := Lib.hid hr9; have B9 := Lib.hid hb9
  clear hr9 hg9 hb9 hrow8 S2 R8 B8
  have S3 := Lib.hid (src_kv2 ((HKO.out.drop i).below B9.out) (n - i) (cap - i) HDI.out)
  have hs9 : wc.heap.size ≤ w9.heap.size := B9.out.size
  have HS9 := Lib.hid hs9
  clear hs9
  go_upto_region 7 with fail
  have hfin : ∀ (v' : Value) (w' : World), KvRow w' wc.heap.size v' (D.take i ++ [(k, v)] ++ D.drop i) → w9.grownBy w' v9.ownBlock → KvRow w' q v' X ∧ Below q w w' := fun v' w' h1 h2 => by
    rw [HSP.out] at h1
    have hb := below_of_grown B9.out h2 HS9.out (fun j hj => (R9.out.lt j hj).1)
    exact ⟨⟨h1.1, h1.2.imp id fun ⟨g, c, cur, h3, h4, h5⟩ => ⟨g, c, cur, h3, by have := HBQ.out; omega, h5⟩⟩, HB.out.trans (hb.mono HBQ.out)⟩
  have HFIN := Lib.hid hfin
  clear hfin
  by_cases hci : i = cap
  · have hd0 : D.drop i = [] := List.drop_eq_nil_of_le (by have := HN.out; omega)
    have S4 := Lib.hid (src_kv2 (w := w9) (ad := ad) (l := D.drop i) (G := fun _ => False) (.inl hd0) 0 0 (by rw [hd0]; rfl))
    have HDL2 := Lib.hid (show (D.take i ++ [(k, v)]).length + (D.drop i).length ≤ 2000000000000 by simp only [List.length_append, List.length_take, List.length_drop, List.length_singleton]; have := HDL.out; omega)
    have hni : n - i = 0 := by omega
    subst hci
    clear hd0 S3
    go_wp2_with (at_builtin; refine wpList_append_kv rfl _ _ rfl wc.heap.size _ (D.take i ++ [(k, v)]) rfl R9.out _ (D.drop i) rfl S4.out HDL2.out HS9.out ?_)
    intro v10 w10 hr10 hg10 _
    have HF := Lib.hid (HFIN.out v10 w10 (by rw [List.append_assoc]; exact hr10) hg10)
    clear hr10 hg10 HFIN
    go_wp2_with fail
    go_ret
    exact ⟨_, rfl, HF.out⟩
  · have hci2 : ¬ cap - i = 0 := by omega
    have HDL2 := Lib.hid (show (D.take i ++ [(k, v)]).length + (D.drop i).length ≤ 2000000000000 by simp only [List.length_append, List.length_take, List.length_drop, List.length_singleton]; have := HDL.out; omega)
    go_wp2_with (at_builtin; refine wpList_append_kv rfl _ _ rfl wc.heap.size _ (D.take i ++ [(k, v)]) rfl R9.out _ (D.drop i) rfl S3.out HDL2.out HS9.out ?_)
    intro v10 w10 hr10 hg10 _
    have HF := Lib.hid (HFIN.out v10 w10 (by rw [List.append_assoc]; exact hr10) hg10)
    clear hr10 hg10 HFIN
    go_wp2_with fail
    go_ret
    exact ⟨_, rfl, HF.out⟩
end Go.Proofs.YtjjejkhekmpgcaaGreat
