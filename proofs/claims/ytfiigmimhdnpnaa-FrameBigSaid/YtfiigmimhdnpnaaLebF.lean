/-
  Layer 1: a number is read.
-/
import Derived.Test.YtfiigmimhdnpnaaLebE
namespace Go.Proofs.Ytfiigmimhdnpnaa
open Go.RowKit

/-- a number is read: its groups from place i on; f groups at most are to come: the number, what is left, an error -/
def rd : Nat → List UInt8 → Nat → Nat → Nat × List UInt8 × Int
  | 0, l, _, _ => (0, l, 6)
  | _ + 1, [], _, _ => (0, [], 5)
  | f + 1, c :: r, i, acc =>
    if 128 ≤ c.toNat then rd f r (i + 1) (acc + c.toNat % 128 * 128 ^ i)
    else if c.toNat = 0 ∧ 0 < i then (0, r, 6) else (acc + c.toNat % 128 * 128 ^ i, r, 0)
/-- what N answers, and leaves -/
def numR (s : ByteArray) (e : Int) : Nat × ByteArray × Int :=
  if e ≠ 0 then (0, s, e) else ((rd 9 s.data.toList 0 0).1, ⟨(rd 9 s.data.toList 0 0).2.1.toArray⟩, (rd 9 s.data.toList 0 0).2.2)

theorem takeR_cons (c : UInt8) (r : List UInt8) : takeR ⟨(c :: r).toArray⟩ 0 1 = (⟨#[c]⟩, ⟨r.toArray⟩, 0) := by
  have h1 : (⟨(c :: r).toArray⟩ : ByteArray).extract 0 1 = ⟨#[c]⟩ := by
    apply ByteArray.ext
    apply Array.ext'
    rw [ByteArray.data_extract, Array.toList_extract]
    simp
  have h2 : (⟨(c :: r).toArray⟩ : ByteArray).extract 1 (⟨(c :: r).toArray⟩ : ByteArray).size = ⟨r.toArray⟩ := by
    apply ByteArray.ext
    apply Array.ext'
    rw [ByteArray.data_extract, Array.toList_extract]
    exact List.take_of_length_le (by show r.length ≤ (c :: r).toArray.size - 1; simp)
  unfold takeR
  rw [if_neg (by simp), if_neg (by show ¬ (c :: r).toArray.size < 1; simp), h1, h2]
theorem takeR_nil : takeR ⟨#[]⟩ 0 1 = (⟨#[]⟩, ⟨#[]⟩, 5) := by
  unfold takeR
  rw [if_neg (by simp), if_pos (by decide)]
theorem or_sum (acc x k : Nat) (hk : k ≤ 8) (ha : acc < 128 ^ k) (hx : x < 128) : bits BinOp.or IntKind.i64 (acc : Int) (wrap64 ((x : Int) * 2 ^ (7 * k))) = ((acc + x * 128 ^ k : Nat) : Int) := by
  have hp : 128 ^ k = 2 ^ (7 * k) := by rw [show (128 : Nat) = 2 ^ 7 from rfl, ← Nat.pow_mul]
  have hb : 2 ^ (7 * k) ≤ 2 ^ 56 := Nat.pow_le_pow_right (by omega) (by omega)
  have hx2 : x * 2 ^ (7 * k) ≤ 127 * 2 ^ 56 := Nat.mul_le_mul (by omega) hb
  rw [hp] at ha ⊢
  have hc : (x : Int) * 2 ^ (7 * k) = ((x * 2 ^ (7 * k) : Nat) : Int) := by push_cast; rfl
  rw [hc, IntWalk.wrap64_in _ ⟨by omega, by omega⟩]
  show IntKind.i64.wrap ((BitVec.ofInt 64 (acc : Int) ||| BitVec.ofInt 64 ((x * 2 ^ (7 * k) : Nat) : Int)).toNat : Int) = _
  rw [BitVec.ofInt_natCast, BitVec.ofInt_natCast, BitVec.toNat_or, BitVec.toNat_ofNat, BitVec.toNat_ofNat, Nat.mod_eq_of_lt (by omega), Nat.mod_eq_of_lt (by omega)]
  have hor : acc ||| x * 2 ^ (7 * k) = acc + x * 2 ^ (7 * k) := by
    rw [Nat.or_comm, ← Nat.shiftLeft_eq, ← Nat.shiftLeft_add_eq_or_of_lt ha, Nat.add_comm]
  rw [hor]
  have hfin : acc + x * 2 ^ (7 * k) < 2 ^ 63 := by omega
  exact IntWalk.i64_in _ (by omega)

set_option maxHeartbeats 4000000 in
theorem num_walk (p : Nat) (s : ByteArray) (e : Int) (w : World) (h : InAt w p s e) :
    Calls Try.prog 36 #[.pointer (some ⟨p, 0, none⟩)] w fun r w' => r = .returned (.int .i64 (numR s e).1) ∧ w.grownBy w' (some p) ∧ InAt w' p (numR s e).2.1 (numR s e).2.2 := by
  have H := Lib.hid h
  clear h
  go_enter Try.func36, Try.ntmps36
  go_wp2_with fail
  by_cases he : e = 0
  · subst he
    go_loopg [3, 9] 9 (fun gk n i wr => ∃ (k acc : Nat) (l : List UInt8), k + gk = 9 ∧ i = .int .i64 k ∧ n = .int .i64 acc ∧ acc < 128 ^ k ∧ InAt wr p ⟨l.toArray⟩ 0 ∧ w.grownBy wr (some p) ∧ rd gk l k acc = rd 9 s.data.toList 0 0)
    case atStart => exact ⟨0, 0, s.data.toList, by omega, rfl, rfl, by simp, H.out, grown_refl _ _, rfl⟩
    case round =>
      obtain ⟨k, acc, l, hgk, rfl, rfl, hacc, hin, hgr, hrd⟩ := hrel
      have HA := Lib.hid hacc; have HI := Lib.hid hin; have HG := Lib.hid hgr; have HR := Lib.hid hrd
      clear hacc hin hgr hrd
      by_cases hlt : k < 9
      · obtain ⟨g, rfl⟩ : ∃ g, gk = g + 1 := ⟨gk - 1, by omega⟩
        cases l with
        | nil =>
          go_wp2_with fail
          refine (take_walk p _ 0 1 _ HI.out).mono ?_
          rintro r w2 ⟨rfl, hg2, h2⟩
          rw [takeR_nil] at h2 ⊢
          have HG2 := Lib.hid (grown_trans HG.out hg2)
          have HI2 := Lib.hid h2
          have HN : Hid (numR s 0 = (0, ⟨#[]⟩, 5)) := Lib.hid (by unfold numR; rw [if_neg (by simp), ← HR.out]; rfl)
          clear hg2 h2 HG HI
          go_wp2_with fail
          go_ret
          rw [HN.out]
          exact ⟨rfl, HG2.out, HI2.out⟩
        | cons c r =>
          go_wp2_with fail
          refine (take_walk p _ 0 1 _ HI.out).mono ?_
          rintro r w2 ⟨rfl, hg2, h2⟩
          rw [takeR_cons] at h2 ⊢
          obtain ⟨s1, hs1⟩ : ∃ s1 : ByteArray, s1 = ⟨#[c]⟩ := ⟨_, rfl⟩
          have hsz : s1.size = 1 := by rw [hs1]; rfl
          have hix : ∀ h : 0 < s1.size, s1[0]'h = c := by subst hs1; intro h; rfl
          have htl : s1.toList = [c] := by rw [hs1, ByteArray.toList_eq]
          have HG2 := Lib.hid (grown_trans HG.out hg2)
          have HI2 := Lib.hid h2
          change ∀ h, _ at hix
          rw [← hs1]
          clear hg2 h2 HG HI hs1
          have hor := or_sum acc (c.toNat % 128) k (by omega) HA.out (by omega)
          have hcc : ((c.toNat % 128 : Nat) : Int) = (c.toNat : Int) % 128 := by omega
          rw [hcc] at hor
          have hac : acc + c.toNat % 128 * 128 ^ k < 128 ^ (k + 1) := by
            have h1 := HA.out
            have h2 : c.toNat % 128 * 128 ^ k ≤ 127 * 128 ^ k := Nat.mul_le_mul_right _ (by omega)
            rw [Nat.pow_succ]; omega
          have HAC := Lib.hid hac
          clear hcc hac
          obtain ⟨acc', hacc'⟩ : ∃ a, a = acc + c.toNat % 128 * 128 ^ k := ⟨_, rfl⟩
          rw [← hacc'] at hor HAC
          have HA' := Lib.hid hacc'
          clear hacc'
          by_cases hc : (128 : Int) ≤ (c.toNat : Int)
          · have HC := Lib.hid hc
            go_wp2_with fail
            go_roundg g
            case measure => omega
            case rel => exact ⟨k + 1, acc', r, by omega, by go_num, rfl, HAC.out, HI2.out, HG2.out, by rw [← HR.out, HA'.out]; simp only [rd]; rw [if_pos (by have := HC.out; omega)]⟩
          · have HC := Lib.hid hc
            by_cases hz : c.toNat = 0 ∧ 0 < k
            · obtain ⟨hz0, hzk⟩ := hz
              have HN : Hid (numR s 0 = (0, ⟨r.toArray⟩, 6)) := Lib.hid (by unfold numR; rw [if_neg (by simp), ← HR.out]; simp only [rd]; rw [if_neg (by have := HC.out; omega), if_pos ⟨hz0, hzk⟩])
              go_wp2_with fail
              refine (fail_walk p _ 0 6 _ HI2.out).mono ?_
              rintro e w3 ⟨rfl, hg3, h3⟩
              rw [if_pos rfl] at h3
              have HG3 := Lib.hid (grown_trans HG2.out hg3); have HI3 := Lib.hid h3
              clear hg3 h3 HG2 HI2
              go_wp2_with fail
              go_ret
              rw [HN.out]
              exact ⟨rfl, HG3.out, HI3.out⟩
            · have HN : Hid (numR s 0 = (acc', ⟨r.toArray⟩, 0)) := Lib.hid (by unfold numR; rw [if_neg (by simp), ← HR.out]; simp only [rd]; rw [if_neg (by have := HC.out; omega), if_neg hz, HA'.out])
              have hz2 : ¬ c.toNat = 0 ∨ k = 0 := by omega
              clear hz
              have hcb : decide ((128 : Int) ≤ (c.toNat : Int)) = false := decide_eq_false hc
              clear hc
              cases hb0 : ((c.toNat : Int) == 0) with
              | false =>
                clear hz2
                go_wp2_with fail
                go_ret
                rw [HN.out]
                exact ⟨rfl, HG2.out, HI2.out⟩
              | true =>
                have hz0 : c.toNat = 0 := by
                  have := beq_iff_eq.1 hb0
                  omega
                have hk0 : k = 0 := by omega
                have e0 : wrap64 ((c.toNat : Int) % 128 * 2 ^ (7 * k)) = 0 := by
                  rw [show (c.toNat : Int) = 0 by omega, show (0 : Int) % 128 = 0 from rfl, Int.zero_mul]
                  exact IntWalk.wrap64_in _ ⟨by omega, by omega⟩
                rw [e0] at hor
                clear hb0 e0
                clear hz2
                go_wp2_with fail
                go_ret
                rw [HN.out]
                exact ⟨rfl, HG2.out, HI2.out⟩
      · obtain rfl : gk = 0 := by omega
        have HN : Hid (numR s 0 = (0, ⟨l.toArray⟩, 6)) := Lib.hid (by unfold numR; rw [if_neg (by simp), ← HR.out]; rfl)
        go_wp2_with fail
        refine (fail_walk p _ 0 6 _ HI.out).mono ?_
        rintro e w3 ⟨rfl, hg3, h3⟩
        rw [if_pos rfl] at h3
        have HG3 := Lib.hid (grown_trans HG.out hg3); have HI3 := Lib.hid h3
        clear hg3 h3 HG HI
        go_wp2_with fail
        go_ret
        rw [HN.out]
        exact ⟨rfl, HG3.out, HI3.out⟩
  · have HE := Lib.hid he
    have HN : Hid (numR s e = (0, s, e)) := Lib.hid (by unfold numR; rw [if_pos he])
    have HT : Hid (takeR s e 1 = (⟨#[]⟩, s, e)) := Lib.hid (by unfold takeR; rw [if_pos he])
    clear he
    go_loopg [9] 9 (fun gk i wr => i = .int .i64 0 ∧ wr = w)
    case atStart => exact ⟨rfl, rfl⟩
    case round =>
      obtain ⟨rfl, rfl⟩ := hrel
      go_wp2_with fail
      refine (take_walk p s e 1 _ H.out).mono ?_
      rintro r w2 ⟨rfl, hg2, h2⟩
      rw [HT.out] at h2 ⊢
      have HG2 := Lib.hid hg2; have HI2 := Lib.hid h2
      clear hg2 h2
      go_wp2_with fail
      go_ret
      rw [HN.out]
      exact ⟨rfl, HG2.out, HI2.out⟩
end Go.Proofs.Ytfiigmimhdnpnaa
