/-
  Layer 6: the walk of StoreForms.
  Layer 6: the walk of StoreForms.
-/
import Derived.Test.YtjjejkhekmpgcaaGreatMsI
import Derived.Deep.CutBlock
namespace Go.Proofs.YtjjejkhekmpgcaaGreat
set_option maxRecDepth 4000
open Go.RowKit

/-- is what is left a transaction, as the reference reads it? -/
def okR : Nat → ByteArray → Bool
  | 0, _ => false
  | f + 1, s =>
    if s.size = 0 then true
    else if (txtR s 0).2.2 ≠ 0 then false
    else if (numR (txtR s 0).2.1 0).2.2 ≠ 0 ∨ 1 < (numR (txtR s 0).2.1 0).1 ∨ (txtR s 0).1.size < 1 ∨ 32 < (txtR s 0).1.size then false
    else if (numR (txtR s 0).2.1 0).1 = 0 then
      if (txtR (numR (txtR s 0).2.1 0).2.1 0).2.2 ≠ 0 ∨ 4096 < (txtR (numR (txtR s 0).2.1 0).2.1 0).1.size then false else okR f (txtR (numR (txtR s 0).2.1 0).2.1 0).2.1
    else okR f (numR (txtR s 0).2.1 0).2.1
theorem rdC_err (f : Nat) (s : ByteArray) (e : Int) (acc : List Chg) (h : e ≠ 0) : (rdC f s e acc).2 = false := by
  cases f with
  | zero => rfl
  | succ f =>
    unfold rdC
    rw [if_neg (fun h2 => h h2.1)]
    have : endR s e ≠ 0 := by unfold endR; rw [if_pos h]; exact h
    simp [this]
theorem numR_bad (s : ByteArray) (e : Int) (h : e ≠ 0) : numR s e = (0, s, e) := by unfold numR; rw [if_pos h]
theorem txtR_bad (s : ByteArray) (e : Int) (h : e ≠ 0) : txtR s e = (⟨#[]⟩, s, e) := by
  unfold txtR
  rw [numR_bad s e h]
  unfold takeR
  rw [if_pos h]
theorem mayC_iff (k v : ByteArray) (g : Bool) : mayC ⟨k, v, g⟩ = true ↔ 1 ≤ k.size ∧ k.size ≤ 32 ∧ v.size ≤ 4096 ∧ (g = true → v.size = 0) := by
  unfold mayC
  cases g <;> simp [and_assoc]
theorem rdC_okR : ∀ (f : Nat) (s : ByteArray) (acc : List Chg), s.size < f → (rdC f s 0 acc).2 = (okR f s && decide (0 < acc.length ∨ s.size ≠ 0))
  | 0, _, _, h => by omega
  | f + 1, s, acc, h => by
    by_cases h0 : s.size = 0
    · have : endR s 0 = 0 := by unfold endR; rw [if_neg (by simp), if_neg (by omega)]
      unfold rdC okR
      rw [if_neg (by omega), if_pos h0]
      simp [this, h0]
    · have hd : decide (0 < acc.length ∨ s.size ≠ 0) = true := decide_eq_true (.inr h0)
      rw [hd, Bool.and_true]
      have ht := txt_size2 s 0
      obtain ⟨k, s1, e1, hk⟩ : ∃ k s1 e1, txtR s 0 = (k, s1, e1) := ⟨_, _, _, rfl⟩
      rw [hk] at ht
      dsimp only at ht
      obtain ⟨n, s2, e2, hn⟩ : ∃ n s2 e2, numR s1 e1 = (n, s2, e2) := ⟨_, _, _, rfl⟩
      have hns := num_size s1 e1
      rw [hn] at hns
      dsimp only at hns
      obtain ⟨v, s3, e3, hv⟩ : ∃ v s3 e3, (if n = 0 then txtR s2 e2 else ((⟨#[]⟩ : ByteArray), s2, e2)) = (v, s3, e3) := ⟨_, _, _, rfl⟩
      have hL : rdC (f + 1) s 0 acc = if 1 < n ∨ mayC ⟨k, v, decide (n = 1)⟩ = false then ([], false) else rdC f s3 e3 (acc ++ [⟨k, v, decide (n = 1)⟩]) := by
        rw [rdC, if_pos ⟨rfl, by omega⟩, hk]
        dsimp only
        rw [hn]
        dsimp only
        rw [hv]
      have hR : okR (f + 1) s = if e1 ≠ 0 then false else if (numR s1 0).2.2 ≠ 0 ∨ 1 < (numR s1 0).1 ∨ k.size < 1 ∨ 32 < k.size then false
          else if (numR s1 0).1 = 0 then (if (txtR (numR s1 0).2.1 0).2.2 ≠ 0 ∨ 4096 < (txtR (numR s1 0).2.1 0).1.size then false else okR f (txtR (numR s1 0).2.1 0).2.1) else okR f (numR s1 0).2.1 := by
        rw [okR, if_neg h0, hk]
      rw [hL, hR]
      clear hL hR
      by_cases h1 : e1 = 0
      · subst h1
        rw [if_neg (c := (0 : Int) ≠ 0) (by simp), hn]
        dsimp only
        by_cases h2 : e2 = 0
        · subst h2
          by_cases h3 : 1 < n
          · rw [if_pos (Or.inl h3), if_pos (Or.inr (Or.inl h3))]
          · by_cases h4 : n = 0
            · subst h4
              rw [if_pos rfl] at hv
              have ht2 := txt_size2 s2 0
              rw [if_pos (c := (0 : Nat) = 0) rfl, hv]
              rw [hv] at ht2
              dsimp only at ht2 ⊢
              rw [show decide ((0 : Nat) = 1) = false from rfl]
              by_cases hm : mayC ⟨k, v, false⟩ = true
              · obtain ⟨m1, m2, m3, _⟩ := (mayC_iff k v false).1 hm
                rw [if_neg (c := 1 < 0 ∨ mayC ⟨k, v, false⟩ = false) (by rw [hm]; simp), if_neg (c := (0 : Int) ≠ 0 ∨ 1 < 0 ∨ k.size < 1 ∨ 32 < k.size) (by omega)]
                by_cases h5 : e3 = 0
                · subst h5
                  rw [if_neg (c := (0 : Int) ≠ 0 ∨ 4096 < v.size) (by omega), rdC_okR f s3 _ (by omega)]
                  simp
                · rw [if_pos (c := e3 ≠ 0 ∨ 4096 < v.size) (Or.inl h5)]
                  exact rdC_err f s3 e3 _ h5
              · have hm2 : mayC ⟨k, v, false⟩ = false := by simpa using hm
                rw [if_pos (c := 1 < 0 ∨ mayC ⟨k, v, false⟩ = false) (Or.inr hm2)]
                by_cases h6 : k.size < 1 ∨ 32 < k.size
                · rw [if_pos (c := (0 : Int) ≠ 0 ∨ 1 < 0 ∨ k.size < 1 ∨ 32 < k.size) (Or.inr (Or.inr h6))]
                · rw [if_neg (c := (0 : Int) ≠ 0 ∨ 1 < 0 ∨ k.size < 1 ∨ 32 < k.size) (by omega), if_pos (c := e3 ≠ 0 ∨ 4096 < v.size)]
                  refine Or.inr (Nat.lt_of_not_le (fun hx => hm ((mayC_iff k v false).2 ⟨by omega, by omega, hx, by simp⟩)))
            · obtain rfl : n = 1 := by omega
              rw [if_neg h4] at hv
              obtain ⟨rfl, rfl, rfl⟩ : (⟨#[]⟩ : ByteArray) = v ∧ s2 = s3 ∧ (0 : Int) = e3 := by
                injection hv with x1 x2
                injection x2 with x2 x3
                exact ⟨x1, x2, x3⟩
              rw [if_neg (c := (1 : Nat) = 0) h4]
              rw [show decide ((1 : Nat) = 1) = true from rfl]
              by_cases hm : mayC ⟨k, ⟨#[]⟩, true⟩ = true
              · obtain ⟨m1, m2, _, _⟩ := (mayC_iff k ⟨#[]⟩ true).1 hm
                rw [if_neg (c := 1 < 1 ∨ mayC ⟨k, ⟨#[]⟩, true⟩ = false) (by rw [hm]; simp), if_neg (c := (0 : Int) ≠ 0 ∨ 1 < 1 ∨ k.size < 1 ∨ 32 < k.size) (by omega), rdC_okR f s2 _ (by omega)]
                simp
              · have hm2 : mayC ⟨k, ⟨#[]⟩, true⟩ = false := by simpa using hm
                rw [if_pos (c := 1 < 1 ∨ mayC ⟨k, ⟨#[]⟩, true⟩ = false) (Or.inr hm2), if_pos (c := (0 : Int) ≠ 0 ∨ 1 < 1 ∨ k.size < 1 ∨ 32 < k.size)]
                refine Or.inr (Or.inr ?_)
                have h0' : (⟨#[]⟩ : ByteArray).size = 0 := rfl
                have : ¬ (1 ≤ k.size ∧ k.size ≤ 32) := fun hx => hm ((mayC_iff k ⟨#[]⟩ true).2 ⟨hx.1, hx.2, by omega, fun _ => rfl⟩)
                omega
        · have hvv : e3 = e2 := by
            split at hv
            · rw [txtR_bad s2 e2 h2] at hv
              injection hv with _ x; injection x with _ x; exact x.symm
            · injection hv with _ x; injection x with _ x; exact x.symm
          rw [if_pos (c := e2 ≠ 0 ∨ 1 < n ∨ k.size < 1 ∨ 32 < k.size) (Or.inl h2)]
          split
          · rfl
          · exact rdC_err f s3 e3 _ (by rw [hvv]; exact h2)
      · rw [if_pos (c := e1 ≠ 0) h1]
        rw [numR_bad s1 e1 h1] at hn
        injection hn with x1 x2
        injection x2 with x2 x3
        subst x1; subst x2; subst x3
        rw [if_pos rfl, txtR_bad s1 e1 h1] at hv
        injection hv with _ x
        injection x with _ x
        split
        · rfl
        · exact rdC_err f s3 e3 _ (by rw [← x]; exact h1)
theorem readC_okR (s : ByteArray) : (readC s).2 = (okR (s.size + 1) s && decide (s.size ≠ 0)) := by
  unfold readC
  rw [rdC_okR _ s [] (by omega)]
  simp
/-- a store that is nil does nothing -/
theorem sdo_nil (v : Value) (w : World) : Calls Tryz.prog 15 #[.pointer none, v] w fun e w' => e = .returned (.int .i64 1) ∧ w' = w := by
  have KC := Lib.hid (scheck_nil v w)
  go_enter Tryz.func15, Tryz.ntmps15
  go_wp2_with fail
  refine KC.out.mono ?_
  rintro e w' ⟨rfl, rfl⟩
  go_wp2_with fail
  go_ret
  exact ⟨rfl, rfl⟩
theorem txt_rest (s : ByteArray) (h : (txtR s 0).2.2 = 0) : (txtR s 0).2.1 = s.extract (readN s (txtR s 0).2.1 (txtR s 0).2.2) s.size ∧ readN s (txtR s 0).2.1 (txtR s 0).2.2 + (txtR s 0).2.1.size = s.size :=
  (read_left s _ _ (fun _ => txt_left s h)).1 h
theorem num_rest (s : ByteArray) (h : (numR s 0).2.2 = 0) : (numR s 0).2.1 = s.extract (readN s (numR s 0).2.1 (numR s 0).2.2) s.size ∧ readN s (numR s 0).2.1 (numR s 0).2.2 + (numR s 0).2.1.size = s.size :=
  (read_left s _ _ (fun _ => num_left s h)).1 h
end Go.Proofs.YtjjejkhekmpgcaaGreat

namespace Go.Proofs.YtjjejkhekmpgcaaGreat
set_option maxRecDepth 4000
open Go.RowKit

set_option maxHeartbeats 16000000 in
theorem storeForms_walk (s : ByteArray) (w : World) (hs : s.size ≤ 9223372036854775807) :
    Calls Tryz.prog 5 #[.string s] w fun r w' => r = .returned (.bool true) ∧ Below w.heap.size w w' := by
  obtain ⟨hw0, hf0, hon, har⟩ := format_fresh 60 (by omega) (by omega)
  obtain ⟨st1, hst1⟩ : ∃ st1, st1 = (formatD (freshD 60)).2 := ⟨_, rfl⟩
  have hfd : formatD (freshD 60) = (0, st1) := Prod.ext hf0 hst1.symm
  rw [← hst1] at hon har
  have HW0 := Lib.hid hw0; have HFD := Lib.hid hfd; have HON := Lib.hid hon; have HAR := Lib.hid har
  clear hw0 hf0 hon har hst1 hfd
  by_cases hbig : (1000 : Int) < (s.size : Int)
  · go_enter Tryz.func5, Tryz.ntmps5
    go_wp2_with fail
    refine (new_disk 60 w (by omega) (by omega)).mono ?_
    rintro e w1 ⟨p, F, rfl, hb1, hd1, hF1⟩
    have KF := Lib.hid (sformat_walk p F (freshD 60) 0 w1 hd1 (by show 4 ≤ (List.replicate 60 [z64]).length; rw [List.length_replicate]; omega) HW0.out (pendMax_new 60) (by omega))
    rw [HFD.out] at KF
    have HB1 := Lib.hid (And.intro hb1 hF1)
    clear hb1 hd1 hF1
    go_wp2_with fail
    refine KF.out.mono ?_
    intro e w2 hpost
    have he := hpost.1
    subst he
    obtain ⟨F2, hb2, hd2, hF2⟩ := DiskPost.low HB1.out.1 HB1.out.2 hpost
    have HB2 := Lib.hid (And.intro hb2 (And.intro hd2 hF2))
    clear hpost hb2 hd2 hF2 KF HB1
    go_wp2_with fail
    refine (awake6_walk w2).mono ?_
    rintro e w3 ⟨rfl, hb3⟩
    have HB3 := Lib.hid (And.intro (HB2.out.1.trans (hb3.mono HB2.out.1.size)) (And.intro (HB2.out.2.1.below hb3) HB2.out.2.2))
    clear hb3 HB2
    go_wp2_with fail
    refine (awake6_walk w3).mono ?_
    rintro e w4 ⟨rfl, hb4⟩
    have HF := Lib.hid (HB3.out.1.trans (hb4.mono HB3.out.1.size))
    clear hb4 HB3
    go_wp2_with fail
    go_ret
    exact ⟨rfl, HF.out⟩
  · have hs1 : s.size ≤ 1000 := by omega
    have hL : (allR [s]).length ≤ 1013 := by
      have h9 := lebN_nine s.size (by omega)
      unfold allR
      rw [List.flatMap_cons, List.length_append, oneR_length]
      show _ + 0 ≤ _
      omega
    have hap : ∃ st2, appendD st1 (jOf 1 0 []) [s] = (0, st2) ∧ OnDisk st2 60 2 0 [s] ∧ appendJ st1 (jOf 1 0 []) [s] = jOf 2 0 [s] := by
      rcases append_safe HON.out [s] (by omega) (by omega) with ⟨h1, _, _⟩ | ⟨h1, _, _⟩ | ⟨_, _, h1⟩
      · have : (allR []).length = 0 := rfl
        have h2 : sizeN 60 = 29 := rfl
        omega
      · cases h1
      · rcases h1 with ⟨e1, e2, e3, _⟩ | ⟨_, e2, _⟩
        · exact ⟨_, Prod.ext e1 rfl, e2, e3⟩
        · exact absurd HAR.out e2
    obtain ⟨st2, ha1, ha2, ha3⟩ := hap
    have HA1 := Lib.hid ha1; have HA2 := Lib.hid ha2; have HA3 := Lib.hid ha3
    obtain ⟨o1, o2, o3, o4⟩ := HON.out.opens
    have HO := Lib.hid (And.intro o1 (And.intro o2 (And.intro o3 o4)))
    have HJ := Lib.hid (jOf_ok HON.out); have HPM := Lib.hid (calm_pend HON.out.calm)
    have HS1 := Lib.hid hs1
    clear hL ha1 ha2 ha3 o1 o2 o3 o4 hs1
    go_enter Tryz.func5, Tryz.ntmps5
    go_wp2_with fail
    refine (new_disk 60 w (by omega) (by omega)).mono ?_
    rintro e w1 ⟨p, F, rfl, hb1, hd1, hF1⟩
    have KF := Lib.hid (sformat_walk p F (freshD 60) 0 w1 hd1 (by show 4 ≤ (List.replicate 60 [z64]).length; rw [List.length_replicate]; omega) HW0.out (pendMax_new 60) (by omega))
    rw [HFD.out] at KF
    have HB1 := Lib.hid (And.intro hb1 hF1)
    clear hb1 hd1 hF1
    go_wp2_with fail
    refine KF.out.mono ?_
    intro e w2 hpost
    have he := hpost.1
    subst he
    obtain ⟨F2, hb2, hd2, hF2⟩ := DiskPost.low HB1.out.1 HB1.out.2 hpost
    have HB2 := Lib.hid (And.intro hb2 (And.intro hd2 hF2))
    clear hpost hb2 hd2 hF2 KF HB1
    go_wp2_with fail
    refine (awake6_walk w2).mono ?_
    rintro e w3 ⟨rfl, hb3⟩
    have HB3 := Lib.hid (And.intro (HB2.out.1.trans (hb3.mono HB2.out.1.size)) (And.intro (HB2.out.2.1.below hb3) HB2.out.2.2))
    clear hb3 HB2
    have KO := Lib.hid (open2_good p F2 st1 w3 HB3.out.2.1 HO.out.2.2.2 HO.out.1 (by rw [HO.out.2.1]))
    rw [HO.out.2.1, HO.out.2.2.1] at KO
    go_wp2_with fail
    refine KO.out.mono ?_
    rintro e w4 ⟨q, ad4, cap4, rfl, hq4, hj4, hst4, hlc4, hcm4, hb4, _⟩
    have hL4 : JLaw w w4 p F2 q st1 (jOf 1 0 []) := ⟨HB3.out.1.trans (hb4.mono HB3.out.1.size), HB3.out.2.1.below hb4, HB3.out.2.2, hj4, fun hf => by have := HB3.out.2.1.lt q hf; omega, Nat.le_trans HB3.out.1.size hq4⟩
    have hbx : Below w4.heap.size w4 (w4.alloc (.cells #[.string s] 9)) := (Below.refl _ _).alloc (Nat.le_refl _) _
    have hL5 := hL4.below hbx
    have KA := Lib.hid (append_walk q p F2 st1 (jOf 1 0 []) 0 (some ⟨w4.heap.size, 0, none⟩) 1 [s] _ hL5.disk hL5.jn hL5.nq HO.out.2.2.2 HJ.out HPM.out (by omega) (str_one_at w4 s 9) (by show 1 ≤ _; omega) (fun x hx => by rw [List.mem_singleton.1 hx]; exact hs))
    rw [HA1.out, HA3.out] at KA
    have HL5 := Lib.hid hL5
    clear hL4 hL5 hbx hj4 hst4 hb4 hq4 KO HB3 hlc4 hcm4
    rw [List.length_nil]
    go_wp2_with fail
    refine KA.out.mono ?_
    intro e w6 hpost
    have he := hpost.1
    subst he
    obtain ⟨F6, hL6⟩ := HL5.out.post hpost
    replace hL6 : JLaw w w6 p F6 q st2 (jOf 2 0 [s]) := hL6
    have HL6 := Lib.hid hL6
    clear hpost hL6 KA HL5 HA1 HA3 HJ HPM HO HON HAR HW0 HFD
    go_upto_block 0 with fail
    have hTdef : (readC s).2 = (okR (s.size + 1) s && decide (s.size ≠ 0)) := readC_okR s
    obtain ⟨T, hT⟩ : ∃ T, T = (readC s).2 := ⟨_, rfl⟩
    have HT := Lib.hid hT
    rw [← hT] at hTdef
    have HTD := Lib.hid hTdef
    clear hT hTdef
    go_cut [8] from 79 to 148 (fun s8 wx => s8 = .bool T ∧ wx = w6)
    case first =>
      go_wp2_with fail
      go_loopg [8, 9] (s.size + 1) (fun gk v8 v9 wr => wr = w6 ∧ ∃ t : ByteArray, v9 = .string t ∧ t.size ≤ 1000 ∧ ((v8 = .bool true ∧ t.size < gk ∧ okR gk t = T) ∨ (v8 = .bool false ∧ T = false)))
      case atStart =>
        refine ⟨rfl, s, rfl, HS1.out, ?_⟩
        by_cases h0 : s.size = 0
        · have e : s.toList.isEmpty = true := by
            have : s = ⟨#[]⟩ := by apply ByteArray.ext; exact Array.eq_empty_of_size_eq_zero h0
            rw [this, ByteArray.toList_eq]; rfl
          exact .inr ⟨by first | rw [e]; rfl | (simp [e]), by rw [HTD.out]; simp [h0]⟩
        · exact .inl ⟨by first | rw [not_empty h0]; rfl | simp [not_empty h0], by omega, by rw [HTD.out]; simp [h0]⟩
      case round =>
        obtain ⟨rfl, t, rfl, ht, hcase⟩ := hrel
        rcases hcase with ⟨rfl, hgk, hok⟩ | ⟨rfl, rfl⟩
        · obtain ⟨g, hg⟩ : ∃ g, gk = g + 1 := ⟨gk - 1, by omega⟩
          subst hg
          by_cases h0 : t.size = 0
          · have hte : t = ⟨#[]⟩ := by apply ByteArray.ext; exact Array.eq_empty_of_size_eq_zero h0
            obtain rfl : true = T := by rw [← hok, okR, if_pos h0]
            subst hte
            clear hok h0 hgk
            go_wp2_with fail
            go_meet
            exact ⟨rfl, rfl⟩
          · have hte := not_empty h0
            rw [okR, if_neg h0] at hok
            have HOK := Lib.hid hok; have HGK := Lib.hid hgk; have HT0 := Lib.hid ht
            have K1 := second_walk t wr (by omega)
            have hr1 := txt_rest t
            have hrr := read_left t (txtR t 0).2.1 (txtR t 0).2.2 (txt_left t)
            obtain ⟨k, s1, e1, hk⟩ : ∃ k s1 e1, txtR t 0 = (k, s1, e1) := ⟨_, _, _, rfl⟩
            rw [hk] at K1 hr1 hrr HOK
            dsimp only at K1 hr1 hrr HOK
            have htz := txt_size2 t 0
            rw [hk] at htz
            dsimp only at htz
            obtain ⟨n, hn⟩ : ∃ n, n = readN t s1 e1 := ⟨_, rfl⟩
            rw [← hn] at K1 hr1 hrr
            replace K1 := Lib.hid K1
            clear hk hn hgk h0
            by_cases h1 : e1 = 0
            · subst h1
              obtain ⟨hs1, hns⟩ := hr1 rfl
              rw [if_neg (c := (0 : Int) ≠ 0) (by simp)] at HOK
              have K2 := first_walk s1 wr (by omega)
              have hr2 := num_rest s1
              have hrr2 := read_left s1 (numR s1 0).2.1 (numR s1 0).2.2 (num_left s1)
              obtain ⟨g0, s2, e2, hk2⟩ : ∃ g0 s2 e2, numR s1 0 = (g0, s2, e2) := ⟨_, _, _, rfl⟩
              rw [hk2] at K2 hr2 hrr2 HOK
              dsimp only at K2 hr2 hrr2 HOK
              obtain ⟨m, hm⟩ : ∃ m, m = readN s1 s2 e2 := ⟨_, rfl⟩
              rw [← hm] at K2 hr2 hrr2
              replace K2 := Lib.hid K2
              have hnt : (n : Int) ≤ (t.size : Int) := by omega
              have hti : (t.size : Int) ≤ 1000 := by omega
              have HS2 := Lib.hid hs1
              have HNS := Lib.hid hns
              have HR2 := Lib.hid hr2; have HRR2 := Lib.hid hrr2; have HTZ := Lib.hid htz
              clear hr1 hrr hs1 hns hk2 hm hr2 hrr2 htz
              go_wp2_with fail
              refine K1.out.mono ?_
              rintro e w7 ⟨rfl, rfl⟩
              clear K1
              go_wp2_with fail
              rw [← HS2.out]
              refine K2.out.mono ?_
              rintro e w8 ⟨rfl, rfl⟩
              clear K2
              by_cases h2 : e2 = 0
              · by_cases h3 : 1 < g0
                · have h3i : (1 : Int) < (g0 : Int) := by omega
                  subst h2
                  obtain rfl : false = T := by rw [← HOK, if_pos (c := (0 : Int) ≠ 0 ∨ 1 < g0 ∨ k.size < 1 ∨ 32 < k.size) (Or.inr (Or.inl h3))]
                  have h3b : decide ((g0 : Int) ≤ 1) = false := decide_eq_false (by omega)
                  clear HOK
                  go_wp2_with fail
                  go_roundg g
                  case measure => omega
                  case rel => exact ⟨rfl, t, rfl, HT0.out, .inr ⟨by first | rfl | (simp; done) | (simp [*]; done), by first | rfl | trivial⟩⟩
                · by_cases h4 : k.size < 1
                  · subst h2
                    have h3i : (g0 : Int) ≤ 1 := by omega
                    obtain rfl : false = T := by rw [← HOK, if_pos (c := (0 : Int) ≠ 0 ∨ 1 < g0 ∨ k.size < 1 ∨ 32 < k.size) (Or.inr (Or.inr (Or.inl h4)))]
                    have h4b : decide ((1 : Int) ≤ (k.size : Int)) = false := decide_eq_false (by omega)
                    clear HOK
                    go_wp2_with fail
                    go_roundg g
                    case measure => omega
                    case rel => exact ⟨rfl, t, rfl, HT0.out, .inr ⟨by first | rfl | (simp; done) | (simp [*]; done), by first | rfl | trivial⟩⟩
                  · by_cases h5 : 32 < k.size
                    · subst h2
                      have h3i : (g0 : Int) ≤ 1 := by omega
                      have h4i : (1 : Int) ≤ (k.size : Int) := by omega
                      obtain rfl : false = T := by rw [← HOK, if_pos (c := (0 : Int) ≠ 0 ∨ 1 < g0 ∨ k.size < 1 ∨ 32 < k.size) (Or.inr (Or.inr (Or.inr h5)))]
                      have h5b : decide ((k.size : Int) ≤ 32) = false := decide_eq_false (by omega)
                      clear HOK
                      go_wp2_with fail
                      go_roundg g
                      case measure => omega
                      case rel => exact ⟨rfl, t, rfl, HT0.out, .inr ⟨by first | rfl | (simp; done) | (simp [*]; done), by first | rfl | trivial⟩⟩
                    · subst h2
                      rw [if_neg (c := (0 : Int) ≠ 0 ∨ 1 < g0 ∨ k.size < 1 ∨ 32 < k.size) (by omega)] at HOK
                      obtain ⟨hs2, hms⟩ := HR2.out rfl
                      have h3i : (g0 : Int) ≤ 1 := by omega
                      have h4i : (1 : Int) ≤ (k.size : Int) := by omega
                      have h5i : (k.size : Int) ≤ 32 := by omega
                      have hns := HNS.out
                      have hnm : (n : Int) + (m : Int) ≤ (t.size : Int) := by omega
                      by_cases h6 : g0 = 0
                      · subst h6
                        rw [if_pos rfl] at HOK
                        have hex : t.extract (n + m) t.size = s2 := by rw [hs2, HS2.out, ex_ex t n m (by omega)]
                        have K3 := second_walk s2 w8 (by have := hms; omega)
                        have hr3 := txt_rest s2
                        have hrr3 := read_left s2 (txtR s2 0).2.1 (txtR s2 0).2.2 (txt_left s2)
                        obtain ⟨v, s3, e3, hk3⟩ : ∃ v s3 e3, txtR s2 0 = (v, s3, e3) := ⟨_, _, _, rfl⟩
                        rw [hk3] at K3 hr3 hrr3 HOK
                        dsimp only at K3 hr3 hrr3 HOK
                        obtain ⟨x, hx⟩ : ∃ x, x = readN s2 s3 e3 := ⟨_, rfl⟩
                        rw [← hx] at K3 hr3 hrr3
                        have htz := HTZ.out
                        have hvs := txt_size2 s2 0
                        rw [hk3] at hvs
                        dsimp only at hvs
                        by_cases h7 : e3 = 0
                        · subst h7
                          obtain ⟨hs3, hxs⟩ := hr3 rfl
                          have hex3 : t.extract (n + (m + x)) t.size = s3 := by rw [hs3, ← hex, ex_ex t (n + m) x (by omega), Nat.add_assoc]
                          have hmx : (m : Int) + (x : Int) ≤ 1000 := by omega
                          have hmx2 : (n : Int) + ((m : Int) + (x : Int)) ≤ (t.size : Int) := by omega
                          have HEX3 := Lib.hid hex3
                          have HSZ3 := Lib.hid (show s3.size < g ∧ s3.size ≤ 1000 by have := HGK.out; omega)
                          replace K3 := Lib.hid K3
                          by_cases h8 : 4096 < v.size
                          · obtain rfl : false = T := by rw [← HOK, if_pos (c := (0 : Int) ≠ 0 ∨ 4096 < v.size) (Or.inr h8)]
                            have h8b : decide ((v.size : Int) ≤ 4096) = false := decide_eq_false (by omega)
                            clear HOK h3 h4 h5 hr3 hrr3 hk3 hx hs3 hxs hex3 htz hvs hs2 hms hns
                            go_wp2_with fail
                            rw [hex]
                            clear hex
                            refine K3.out.mono ?_
                            rintro e y9 ⟨rfl, rfl⟩
                            clear K3
                            go_wp2_with fail
                            go_roundg g
                            case measure => omega
                            case rel => exact ⟨rfl, t, rfl, HT0.out, .inr ⟨by first | rfl | (simp; done) | (simp [*]; done), by first | rfl | trivial⟩⟩
                          · rw [if_neg (c := (0 : Int) ≠ 0 ∨ 4096 < v.size) (by omega)] at HOK
                            have h8i : (v.size : Int) ≤ 4096 := by omega
                            have HOK2 := Lib.hid HOK
                            clear HOK h3 h4 h5 hr3 hrr3 hk3 hx hs3 hxs hex3 htz hvs hs2 hms hns h8
                            go_wp2_with fail
                            rw [hex]
                            clear hex
                            refine K3.out.mono ?_
                            rintro e y9 ⟨rfl, rfl⟩
                            clear K3
                            go_wp2_with fail
                            go_roundg g
                            case measure => omega
                            case rel => exact ⟨rfl, s3, congrArg Value.string HEX3.out, HSZ3.out.2, .inl ⟨rfl, HSZ3.out.1, HOK2.out⟩⟩
                        · obtain rfl : false = T := by rw [← HOK, if_pos (c := e3 ≠ 0 ∨ 4096 < v.size) (Or.inl h7)]
                          obtain rfl : x = 0 := hrr3.2 h7
                          have h7b : (e3 == 0) = false := by simpa using h7
                          replace K3 := Lib.hid K3
                          clear HOK h3 h4 h5 hr3 hrr3 hk3 hx htz hvs hs2 hms hns
                          go_wp2_with fail
                          rw [hex]
                          clear hex
                          refine K3.out.mono ?_
                          rintro e y9 ⟨rfl, rfl⟩
                          clear K3
                          go_wp2_with fail
                          go_roundg g
                          case measure => omega
                          case rel => exact ⟨rfl, t, rfl, HT0.out, .inr ⟨by first | rfl | (simp; done) | (simp [*]; done), by first | rfl | trivial⟩⟩
                      · obtain rfl : g0 = 1 := by omega
                        rw [if_neg h6] at HOK
                        have hex : t.extract (n + m) t.size = s2 := by rw [hs2, HS2.out, ex_ex t n m (by omega)]
                        have htz := HTZ.out
                        have HEX2 := Lib.hid hex
                        have HSZ2 := Lib.hid (show s2.size < g ∧ s2.size ≤ 1000 by have := HGK.out; omega)
                        have HOK2 := Lib.hid HOK
                        clear HOK h3 h4 h5 h6 hex htz hs2 hms hns
                        go_wp2_with fail
                        go_roundg g
                        case measure => omega
                        case rel => exact ⟨rfl, s2, congrArg Value.string HEX2.out, HSZ2.out.2, .inl ⟨rfl, HSZ2.out.1, HOK2.out⟩⟩
              · have h2b : (e2 == 0) = false := by simpa using h2
                obtain rfl : false = T := by rw [← HOK, if_pos (c := e2 ≠ 0 ∨ 1 < g0 ∨ k.size < 1 ∨ 32 < k.size) (Or.inl h2)]
                clear HOK
                go_wp2_with fail
                go_roundg g
                case measure => omega
                case rel => exact ⟨rfl, t, rfl, HT0.out, .inr ⟨by first | rfl | (simp; done) | (simp [*]; done), by first | rfl | trivial⟩⟩
            · rw [if_pos h1] at HOK
              obtain rfl : false = T := HOK.out
              obtain rfl : n = 0 := hrr.2 h1
              have K2 := Lib.hid (first_walk t wr (by omega))
              have htx : t.extract 0 t.size = t := by simp
              have h1b : (e1 == 0) = false := by simpa using h1
              clear hr1 hrr HOK htz
              go_wp2_with fail
              refine K1.out.mono ?_
              rintro e w7 ⟨rfl, rfl⟩
              clear K1
              go_wp2_with fail
              try rw [htx]
              refine K2.out.mono ?_
              rintro e w8 ⟨rfl, rfl⟩
              clear K2
              go_wp2_with fail
              go_roundg g
              case measure => omega
              case rel => exact ⟨rfl, t, rfl, HT0.out, .inr ⟨by first | rfl | (rw [h1b]) | simp [h1b], by first | rfl | trivial⟩⟩
        · go_wp2_with fail
          all_goals (go_meet; exact ⟨rfl, rfl⟩)
    case rest =>
    obtain ⟨rfl, rfl⟩ := hcut
    obtain ⟨p1, p2, _, p4⟩ := HA2.out.opens
    have KS := sopen_walk p F6 st2 100 [s] wc HL6.out.disk p4 p1 p2 (by omega) (by omega) (by show s.size + 0 ≤ _; have := HS1.out; omega) (by show 1 ≤ _; omega)
    have hop : openM [s] [] = if T = true then some (afterM [] (readC s).1) else none := by rw [HT.out]; rfl
    rw [hop] at KS
    clear hop p1 p2 p4 HT HTD HA2 HS1
    cases T with
    | true =>
      rw [if_pos rfl] at KS
      replace KS := Lib.hid KS
      go_wp2_with fail
      refine KS.out.mono ?_
      rintro e w7 ⟨hb7, q2, jq2, b2, rfl, _⟩
      have HF := Lib.hid (HL6.out.low.trans (hb7.mono HL6.out.low.size))
      clear hb7 KS HL6
      go_wp2_with fail
      refine (get_none ⟨#[97]⟩ _).mono ?_
      rintro e y1 ⟨rfl, rfl⟩
      go_wp2_with fail
      refine (sdo_nil _ _).mono ?_
      rintro e y2 ⟨rfl, rfl⟩
      go_wp2_with fail
      refine (scheck_nil _ _).mono ?_
      rintro e y3 ⟨rfl, rfl⟩
      go_wp2_with fail
      refine (bytes_none _).mono ?_
      rintro e y4 ⟨rfl, rfl⟩
      go_wp2_with fail
      refine (quota_none _).mono ?_
      rintro e y5 ⟨rfl, rfl⟩
      go_wp2_with fail
      refine (len_none _).mono ?_
      rintro e y6 ⟨rfl, rfl⟩
      go_wp2_with fail
      refine (keys_nil _ _).mono ?_
      rintro e y7 ⟨rfl, rfl⟩
      go_wp2_with fail
      refine (broken_none _).mono ?_
      rintro e y8 ⟨rfl, rfl⟩
      go_wp2_with fail
      go_ret
      exact ⟨rfl, HF.out.alloc HF.out.size _⟩
    | false =>
      rw [if_neg (by simp)] at KS
      replace KS := Lib.hid KS
      go_wp2_with fail
      refine KS.out.mono ?_
      rintro e w7 ⟨hb7, rfl⟩
      have HF := Lib.hid (HL6.out.low.trans (hb7.mono HL6.out.low.size))
      clear hb7 KS HL6
      go_wp2_with fail
      refine (get_none ⟨#[97]⟩ _).mono ?_
      rintro e y1 ⟨rfl, rfl⟩
      go_wp2_with fail
      refine (sdo_nil _ _).mono ?_
      rintro e y2 ⟨rfl, rfl⟩
      go_wp2_with fail
      refine (scheck_nil _ _).mono ?_
      rintro e y3 ⟨rfl, rfl⟩
      go_wp2_with fail
      refine (bytes_none _).mono ?_
      rintro e y4 ⟨rfl, rfl⟩
      go_wp2_with fail
      refine (quota_none _).mono ?_
      rintro e y5 ⟨rfl, rfl⟩
      go_wp2_with fail
      refine (len_none _).mono ?_
      rintro e y6 ⟨rfl, rfl⟩
      go_wp2_with fail
      refine (keys_nil _ _).mono ?_
      rintro e y7 ⟨rfl, rfl⟩
      go_wp2_with fail
      refine (broken_none _).mono ?_
      rintro e y8 ⟨rfl, rfl⟩
      go_wp2_with fail
      go_ret
      exact ⟨rfl, HF.out.alloc HF.out.size _⟩
end Go.Proofs.YtjjejkhekmpgcaaGreat
