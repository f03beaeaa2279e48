/-
  For every three texts CrcEven answers true: the sums of three texts of one length, and of the one that they make, added without carry, are nought. No condition.
-/
import Derived.Test.YteddefjkmojmbaaCrcEv
import Derived.Test.YteddefjkmojmbaaLaw
namespace Go.Proofs.Yteddefjkmojmbaa.lawEven
open Go.ChangeShapes Go.WideShapes Go.ChangeAt Go.RowKit
open Go.ChangeMaps (open_string)

theorem low_nat (a b : Nat) (w : World) : Calls Try.prog 6 #[.int .i64 a, .int .i64 b] w fun e w' => e = .returned (.int .i64 ((min a b : Nat) : Int)) ∧ w = w' := by
  have h := low_walk (a : Int) (b : Int) w
  have e : min (a : Int) (b : Int) = ((min a b : Nat) : Int) := by omega
  rw [e] at h
  exact h

theorem i64_xor_nat (a b : Nat) (ha : a < 4294967296) (hb : b < 4294967296) : bits BinOp.xor IntKind.i64 (a : Int) (b : Int) = ((a ^^^ b : Nat) : Int) := by
  have hx : a ^^^ b < 2 ^ 32 := Nat.xor_lt_two_pow (by omega) (by omega)
  show IntKind.i64.wrap ((BitVec.ofInt 64 (a : Int) ^^^ BitVec.ofInt 64 (b : Int)).toNat : Int) = _
  rw [BitVec.toNat_xor, BitVec.ofInt_natCast, BitVec.ofInt_natCast, BitVec.toNat_ofNat, BitVec.toNat_ofNat, Nat.mod_eq_of_lt (by omega), Nat.mod_eq_of_lt (by omega)]
  exact IntWalk.i64_in _ (by omega)

theorem even_fact (x y z t : Nat) (hx : x < 4294967296) (hy : y < 4294967296) (hz : z < 4294967296) (ht : t < 4294967296) (h : x ^^^ y ^^^ z ^^^ t = 0) :
    (bits BinOp.xor IntKind.i64 (bits BinOp.xor IntKind.i64 (bits BinOp.xor IntKind.i64 (x : Int) (y : Int)) (z : Int)) (t : Int) == 0) = true := by
  have h1 : x ^^^ y < 2 ^ 32 := Nat.xor_lt_two_pow (by omega) (by omega)
  have h2 : x ^^^ y ^^^ z < 2 ^ 32 := Nat.xor_lt_two_pow (by omega) (by omega)
  rw [i64_xor_nat x y hx hy, i64_xor_nat _ z (by omega) hz, i64_xor_nat _ t (by omega) ht, h]
  rfl

theorem extract_size (a : ByteArray) (n : Nat) (h : n ≤ a.size) : (a.extract 0 n).size = n := by simp [ByteArray.size_extract]; omega

set_option maxHeartbeats 1000000 in
theorem walk (a b c : ByteArray) (w : World) (ha : a.size ≤ 140737488351232) (hb : b.size ≤ 140737488351232) (hc : c.size ≤ 140737488351232) :
    Calls Try.prog 3 #[.string a, .string b, .string c] w fun e w' => e = .returned (.bool true) ∧ Below w.heap.size w w' := by
  have hB0 := Below.refl w.heap.size w
  have hBl : w.heap.size ≤ w.heap.size := Nat.le_refl _
  go_enter Try.func3, Try.ntmps3
  go_wp2_with fail
  refine (low_nat _ _ _).mono ?_
  rintro e w' ⟨rfl, rfl⟩
  go_wp2_with fail
  refine (low_nat _ _ _).mono ?_
  rintro e w' ⟨rfl, rfl⟩
  obtain ⟨n, hn⟩ : ∃ n, n = min (min a.size b.size) c.size := ⟨_, rfl⟩
  rw [← hn]
  have hna : n ≤ a.size := by omega
  have hnb : n ≤ b.size := by omega
  have hnc : n ≤ c.size := by omega
  clear hn
  go_wp2_with fail
  have sA := extract_size a n hna
  have sB := extract_size b n hnb
  have sC := extract_size c n hnc
  generalize a.extract 0 n = A at sA ⊢
  generalize b.extract 0 n = B at sB ⊢
  generalize c.extract 0 n = C at sC ⊢
  have hx := crcSum_le A.data.toList
  have hy := crcSum_le B.data.toList
  have hz := crcSum_le C.data.toList
  have ht := crcSum_le (xor3 A.data.toList B.data.toList C.data.toList)
  have hev := even_fact _ _ _ _ (by omega) (by omega) (by omega) (by omega) (crcSum_even A.data.toList B.data.toList C.data.toList (by simp; omega) (by simp; omega))
  have lA : A.size ≤ 140737488351232 := by omega
  have lB : B.size ≤ 140737488351232 := by omega
  have lC : C.size ≤ 140737488351232 := by omega
  have lT : (⟨(xor3 A.data.toList B.data.toList C.data.toList).toArray⟩ : ByteArray).size ≤ 140737488351232 := by
    show (xor3 A.data.toList B.data.toList C.data.toList).toArray.size ≤ _
    rw [List.size_toArray, xor3_length _ _ _ (by simp; omega) (by simp; omega)]
    simpa using lA
  have HT := three_walk A B C
  have eB : B.size = A.size := by omega
  have eC : C.size = A.size := by omega
  have HB := Lib.hid eB
  have HC := Lib.hid eC
  have HT2 := Lib.hid lT
  clear sA sB sC eB eC hx hy hz ht lT HT
  refine (calls_in (awake_walk _) hB0 hBl).mono ?_
  rintro e w1 ⟨rfl, hb1⟩
  go_wp2_with fail
  refine (calls_in (sum_walk A _ (by omega)) hb1 hBl).mono ?_
  rintro e w2 ⟨rfl, hb2⟩
  go_wp2_with fail
  refine (calls_in (sum_walk B _ (by omega)) hb2 hBl).mono ?_
  rintro e w3 ⟨rfl, hb3⟩
  go_wp2_with fail
  refine (calls_in (sum_walk C _ (by omega)) hb3 hBl).mono ?_
  rintro e w4 ⟨rfl, hb4⟩
  go_wp2_with fail
  refine (calls_in (three_walk A B C _ HB.out HC.out lA) hb4 hBl).mono ?_
  rintro e w5 ⟨rfl, hb5⟩
  go_wp2_with fail
  refine (calls_in (sum_walk _ _ (Nat.le_trans HT2.out (by omega))) hb5 hBl).mono ?_
  rintro e w6 ⟨rfl, hb6⟩
  go_wp2_with fail
  go_ret
  exact ⟨rfl, hb6⟩

theorem contract (H : Type) (enc : TypeId × Value → H) (W : World) (base : Nat) (args : Array Value) (ds gs : List (DataW H)) (before : List MemPlace)
    (hval : ∀ (j : Nat) t v, Try.f3.params[j]? = some t → args[j]? = some v → Value.okWide Try.prog W .any base t v)
    (hW : DataW.Whole enc Try.prog Try.f3.params.toList Rows.crcEvenSpec.vars false W args.toList ds gs before)
    (hsz : (DataW.weightsEach Try.prog (Try.f3.params.toList ++ Rows.crcEvenSpec.plain.varTypes Try.prog) (ds ++ gs)).all (· ≤ reachBytes) = true) :
    Calls Try.prog 3 args W fun e W' => ∃ v, e = .returned v ∧ Rows.crcEvenSpec.post enc Try.prog Try.f3 false true false false W args v W' := by
  have hW' := hW
  obtain ⟨p, q, hA0, hV, rfl, hfz, hnd⟩ := hW
  have hA : DataW.TrodAll enc Try.prog W 0 (fun _ => true) true Try.f3.params.toList args.toList ds p := hA0
  rw [Try.params3] at hA hval
  obtain ⟨v0, vs0, d0, ds0, p0, q0, hargs, rfl, rfl, h0, r0⟩ := trodAll_cons hA
  obtain ⟨v1, vs1, d1, ds1, p1, q1, rfl, rfl, rfl, h1, r1⟩ := trodAll_cons r0
  obtain ⟨v2, vs2, d2, ds2, p2, q2, rfl, rfl, rfl, h2, r2⟩ := trodAll_cons r1
  obtain ⟨rfl, rfl, rfl⟩ := trodAll_nil r2
  obtain rfl : args = #[v0, v1, v2] := by cases args; simp_all
  obtain ⟨rfl, rfl⟩ := trodVars_none hV
  obtain ⟨a, rfl, rfl, rfl, _⟩ := open_string Try.underlying9 (hval 0 9 v0 rfl rfl) h0
  obtain ⟨b, rfl, rfl, rfl, _⟩ := open_string Try.underlying9 (hval 1 9 v1 rfl rfl) h1
  obtain ⟨c, rfl, rfl, rfl, _⟩ := open_string Try.underlying9 (hval 2 9 v2 rfl rfl) h2
  have ha : a.data.toList.length ≤ reachBytes := sized_string hsz (j := 0) (t := 9) rfl rfl
  have hb : b.data.toList.length ≤ reachBytes := sized_string hsz (j := 1) (t := 9) rfl rfl
  have hc : c.data.toList.length ≤ reachBytes := sized_string hsz (j := 2) (t := 9) rfl rfl
  unfold reachBytes at ha hb hc
  refine (walk a b c W (by simpa using ha) (by simpa using hb) (by simpa using hc)).mono fun e W' ⟨he, hb⟩ => ⟨_, he, ?_⟩
  exact post_law laidOut (by kernel_rfl) 4 rfl Try.underlying4 rfl rfl hW' hb

set_option maxRecDepth 100000 in
theorem lifted (os : Os) (started : os.Started) (H : Type) (enc : TypeId × Value → H) :
    ReturnsInHanded {} Try.checked os 3 .any (Rows.crcEvenSpec.pre6 enc Try.prog Try.f3 Rows.crcEvenRow.domain false) (Rows.crcEvenSpec.post enc Try.prog Try.f3 false true false false) := by
  refine returnsInHanded_of_change_sized (C := Try.checked) own started (by kernel_rfl) Try.func3
    (ChangeSpec.witness6 (enc := enc) (C := Try.checked) false ⟨#[], #[.string ByteArray.empty, .string ByteArray.empty, .string ByteArray.empty], []⟩ 8 (by kernel_rfl) (by kernel_rfl) (by kernel_rfl) (by kernel_rfl)) ?_
  intro W base args ds gs before hval hW _ hsz _
  exact contract H enc W base args ds gs before hval hW hsz

theorem proved : Rows.CrcEvenSaid :=
  OpenClaim.holds_of_wide 3 Try.f3 rfl rfl rfl rfl rfl rfl rfl ⟨rfl, rfl, rfl, rfl, rfl⟩ rfl rfl rfl rfl rfl (by kernel_rfl) Try.func3 (by kernel_rfl)
    (of_decide_eq_true (by kernel_rfl)) (by unfold Func.isWrapper; first | (rw [if_pos (by decide +kernel)]; kernel_rfl) | (rw [if_neg (by decide +kernel)]; exact ⟨rfl, rfl⟩))
    (fun os started H enc _ => lifted os started H enc)
end Go.Proofs.Yteddefjkmojmbaa.lawEven
