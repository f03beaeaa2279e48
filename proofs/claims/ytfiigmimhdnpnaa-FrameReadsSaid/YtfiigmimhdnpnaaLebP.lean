/-
  Layer 1: the reference's Number, Text.
-/
import Derived.Test.YtfiigmimhdnpnaaLebT
namespace Go.Proofs.Ytfiigmimhdnpnaa
open Go.RowKit

/-- a text of one fresh byte -/
theorem str_one (W : World) (k : Int) (x : UInt8) (hx : k = (x.toNat : Int)) : (convert 38 9 (.slice (some ⟨W.heap.size, 0, none⟩) 1 1)).run Try.prog (W.alloc (.cells #[.int .u8 k] 5)) = .ok (.string ⟨#[x]⟩) (W.alloc (.cells #[.int .u8 k] 5)) := by
  subst hx
  exact run_string_own (P := Try.prog) _ 38 5 Try.underlying38 Try.underlying5 W.heap.size _ 1 [x] (World.ownsRow_lit W #[.int .u8 x.toNat] 1 (Nat.le_refl _) (by unfold maxLen; omega) rfl) 9 Try.underlying9
theorem str_add (l m : List UInt8) : (⟨l.toArray⟩ : ByteArray) ++ ⟨m.toArray⟩ = ⟨(l ++ m).toArray⟩ := by
  apply ByteArray.ext
  apply Array.ext'
  rw [ByteArray.data_append]
  simp

set_option maxHeartbeats 1000000 in
theorem rnumber_walk (n : Nat) (w : World) (hn : n ≤ 9223372036854775807) :
    Calls Try.prog 17 #[.int .i64 n] w fun r w' => r = .returned (.string ⟨(lebN n).toArray⟩) ∧ Below w.heap.size w w' := by
  go_enter Try.func17, Try.ntmps17
  go_wp2_with fail
  go_loopg [0, 3] n (fun gk vn vo wr => ∃ l, vn = .int .i64 (gk : Nat) ∧ gk ≤ n ∧ vo = .string ⟨l.toArray⟩ ∧ l ++ lebN gk = lebN n ∧ Below w.heap.size w wr)
  case atStart => exact ⟨[], rfl, Nat.le_refl _, rfl, rfl, Below.refl _ _⟩
  case round =>
    obtain ⟨l, rfl, hle, rfl, hl, hb⟩ := hrel
    have HL := Lib.hid hl; have HB := Lib.hid hb
    clear hl hb
    obtain ⟨o, ho⟩ : ∃ o : ByteArray, o = ⟨l.toArray⟩ := ⟨_, rfl⟩
    have hos : o.size = l.length := by rw [ho]; exact List.size_toArray
    have hl9 : l.length ≤ 9 := by
      have h1 := lebN_nine n hn
      rw [← HL.out, List.length_append] at h1
      omega
    rw [← ho]
    have HO := Lib.hid ho; have HOS := Lib.hid hos; have HL9 := Lib.hid hl9
    clear ho hos hl9
    by_cases hbig : (127 : Int) < (gk : Int)
    · have hx : (gk : Int) % 128 + 128 = ((UInt8.ofNat (gk % 128 + 128)).toNat : Int) := by
        rw [UInt8.toNat_ofNat', Nat.mod_eq_of_lt (by omega)]
        omega
      have hrun := str_one wr _ _ hx
      have HBG := Lib.hid hbig; have HRUN := Lib.hid hrun
      obtain ⟨x, hxx⟩ : ∃ x : ByteArray, x = ⟨#[UInt8.ofNat (gk % 128 + 128)]⟩ := ⟨_, rfl⟩
      have HXX := Lib.hid hxx
      have hxs : x.size = 1 := by rw [hxx]; rfl
      have hsum : o.size + x.size ≤ 9223372036854775807 := by have h1 := HOS.out; have h2 := HL9.out; omega
      have hB2 := HB.out.alloc HB.out.size (.cells #[.int .u8 ((gk : Int) % 128 + 128)] 5)
      have H2 := Lib.hid hB2
      clear hx hrun hxx hB2 hxs
      go_wp2_with fail
      rw [HRUN.out, ← HXX.out]
      go_wp2_with fail
      go_roundg (gk / 128)
      case measure => have := HBG.out; omega
      case rel =>
        refine ⟨l ++ [UInt8.ofNat (gk % 128 + 128)], congrArg (Value.int .i64) (by omega), by omega, ?_, ?_, H2.out⟩
        · rw [HO.out, HXX.out]
          exact congrArg Value.string (str_add l [UInt8.ofNat (gk % 128 + 128)])
        · rw [← HL.out, lebN_big (n := gk) (by have := HBG.out; omega), List.append_assoc]
          rfl
    · have hsm : lebN gk = [UInt8.ofNat gk] := lebN_small (by omega)
      have hx : (gk : Int) = ((UInt8.ofNat gk).toNat : Int) := by
        rw [UInt8.toNat_ofNat', Nat.mod_eq_of_lt (by omega)]
      have hrun := str_one wr _ _ hx
      have HSM := Lib.hid hsm; have HRUN := Lib.hid hrun
      obtain ⟨x, hxx⟩ : ∃ x : ByteArray, x = ⟨#[UInt8.ofNat gk]⟩ := ⟨_, rfl⟩
      have HXX := Lib.hid hxx
      have hxs : x.size = 1 := by rw [hxx]; rfl
      have hsum : o.size + x.size ≤ 9223372036854775807 := by have h1 := HOS.out; have h2 := HL9.out; omega
      have hB2 := HB.out.alloc HB.out.size (.cells #[.int .u8 (gk : Int)] 5)
      have H2 := Lib.hid hB2
      clear hsm hx hrun hxx hB2 hxs
      go_wp2_with fail
      rw [HRUN.out, ← HXX.out]
      go_wp2_with fail
      go_ret
      refine ⟨?_, H2.out⟩
      rw [← HL.out, HSM.out, HO.out, HXX.out]
      exact congrArg (fun b => Ending.returned (Value.string b)) (str_add l [UInt8.ofNat gk])

theorem rtext_walk (s : ByteArray) (w : World) (hs : s.size ≤ 131072) :
    Calls Try.prog 34 #[.string s] w fun r w' => r = .returned (.string (⟨(lebN s.size).toArray⟩ ++ s)) ∧ Below w.heap.size w w' := by
  go_enter Try.func34, Try.ntmps34
  go_wp2_with fail
  refine (rnumber_walk s.size _ (by omega)).mono ?_
  rintro r w1 ⟨rfl, hb1⟩
  obtain ⟨t, ht⟩ : ∃ t : ByteArray, t = ⟨(lebN s.size).toArray⟩ := ⟨_, rfl⟩
  have hts : t.size = (lebN s.size).length := by rw [ht]; exact List.size_toArray
  have h9 := lebN_nine s.size (by omega)
  have hsum : t.size + s.size ≤ 9223372036854775807 := by omega
  rw [← ht]
  have HT := Lib.hid ht; have HB := Lib.hid hb1
  clear hts h9 hs
  clear ht hb1
  go_wp2_with fail
  go_ret
  rw [HT.out]
  exact ⟨rfl, HB.out⟩
end Go.Proofs.Ytfiigmimhdnpnaa
