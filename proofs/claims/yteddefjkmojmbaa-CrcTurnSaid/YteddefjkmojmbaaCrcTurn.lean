/-
  For every text and every place and bit CrcTurn answers true: of texts that differ in one bit alone the sums differ. No condition.
-/
import Derived.Test.YteddefjkmojmbaaCrcEv
import Derived.Test.YteddefjkmojmbaaLaw
import Derived.Deep.RegionWith
namespace Go.Proofs.Yteddefjkmojmbaa.lawTurn
open Go.ChangeShapes Go.WideShapes Go.ChangeAt Go.RowKit
open Go.ChangeMaps (open_string)

theorem bytes_made (s : ByteArray) (w : World) : ∃ cap W1, (convert 9 32 (.string s)).run Try.prog w = .ok (.slice (some ⟨w.heap.size, 0, none⟩) s.size cap) W1 ∧ Below w.heap.size w W1 ∧ w.heap.size < W1.heap.size ∧
    (∀ i, i < s.size → W1.cell? ⟨w.heap.size, i, none⟩ = some (.int .u8 (s.data.toList.getD i 0).toNat) ∧ W1.frozen? ⟨w.heap.size, i, none⟩ = false) := by
  refine ⟨_, _, Lib.run_convert_string_bytes (P := Try.prog) w 9 32 5 s Try.underlying9 Try.underlying32 Try.underlying5, ?_, ?_, ?_⟩
  · exact ⟨by unfold Lib.bytesWorld World.freeze; split <;> rfl, by unfold Lib.bytesWorld World.freeze; split <;> rfl, by unfold Lib.bytesWorld World.freeze; split <;> rfl, by rw [Lib.bytesWorld_size]; omega, fun k hk => Lib.bytesWorld_at_old w _ s k hk⟩
  · rw [Lib.bytesWorld_size]; omega
  · intro i hi
    refine ⟨Lib.bytesWorld_cell w _ s i hi, ?_⟩
    have hsz : s.size ≤ (Lib.bytesCells w 5 s).size := by simp [Lib.bytesCells]
    simp only [World.frozen?, Lib.bytesWorld_at_new]
    simp
    omega

theorem string_of_cells (w : World) (b cap : Nat) (l : List UInt8) (hc : ∀ i, i < l.length → w.cell? ⟨b, i, none⟩ = some (.int .u8 (l.getD i 0).toNat)) :
    (convert 32 9 (.slice (some ⟨b, 0, none⟩) l.length cap)).run Try.prog w = .ok (.string ⟨l.toArray⟩) w := by
  have h := run_convert_bytes_arg (P := Try.prog) w 32 5 Try.underlying32 Try.underlying5 b 0 l.length cap (l.map fun x => (x.toNat : Int)) (by simp) (fun i hi => by
    rw [Nat.zero_add, hc i hi]
    simp [List.getD_eq_getElem?_getD, List.getElem?_eq_getElem hi]) 9 Try.underlying9
  rw [h]
  congr 2
  apply ByteArray.ext
  apply Array.toList_inj.1
  rw [strOfNums_data, List.map_map]
  show _ = l
  conv => rhs; rw [← List.map_id l]
  apply List.map_congr_left
  intro x _
  simp

theorem flip_ne (c : UInt8) (k : Nat) (hk : k < 8) : c ^^^ UInt8.ofNat (2 ^ k) ≠ c := by
  intro h
  have h2 := congrArg UInt8.toNat h
  rw [UInt8.toNat_xor] at h2
  have hp : (UInt8.ofNat (2 ^ k)).toNat = 2 ^ k := by
    have : ∀ k, k < 8 → (UInt8.ofNat (2 ^ k)).toNat = 2 ^ k := by decide
    exact this k hk
  rw [hp] at h2
  have h3 : c.toNat ^^^ 2 ^ k ^^^ c.toNat = 0 := by rw [h2, Nat.xor_self]
  rw [Nat.xor_comm, ← Nat.xor_assoc, Nat.xor_self, Nat.zero_xor] at h3
  have := Nat.two_pow_pos k
  omega
theorem flip_val (c : UInt8) (k : Nat) (hk : k < 8) : bits BinOp.xor IntKind.u8 (c.toNat : Int) ((2 : Int) ^ k % 256) = ((c ^^^ UInt8.ofNat (2 ^ k)).toNat : Int) := by
  have hp : ((2 : Int) ^ k % 256) = (((UInt8.ofNat (2 ^ k)).toNat : Nat) : Int) := by
    have : ∀ k, k < 8 → ((2 : Int) ^ k % 256) = (((UInt8.ofNat (2 ^ k)).toNat : Nat) : Int) := by decide
    exact this k hk
  have h1 := c.toNat_lt
  have h2 := (UInt8.ofNat (2 ^ k)).toNat_lt
  rw [hp, u8_xor_nat _ _ (by omega) (by omega), UInt8.toNat_xor]

theorem crcCheck_other (l m : List UInt8) (h : crcSum l ≠ crcSum m) : crcCheck ⟨l.toArray⟩ ⟨(fourOf (crcSum m)).toArray⟩ = 7 := by
  have h4 : (⟨(fourOf (crcSum m)).toArray⟩ : ByteArray).size = 4 := rfl
  have hne : fourOf (crcSum m) ≠ fourOf (crcSum l) := by
    intro e
    have hl := crcSum_le l
    have hm := crcSum_le m
    apply h
    unfold fourOf at e
    simp only [List.cons.injEq, and_true] at e
    obtain ⟨e0, e1, e2, e3⟩ := e
    have f0 := congrArg UInt8.toNat e0
    have f1 := congrArg UInt8.toNat e1
    have f2 := congrArg UInt8.toNat e2
    have f3 := congrArg UInt8.toNat e3
    simp only [UInt8.toNat_ofNat'] at f0 f1 f2 f3
    omega
  unfold crcCheck
  rw [if_neg (by simp [h4]), if_neg]
  rw [bytes_eq]
  simpa using hne

set_option maxHeartbeats 1000000 in
theorem turn_mid (s : ByteArray) (at_ bit : Nat) (w : World) (h0 : 0 < s.size) (h1 : s.size ≤ 4000) (ha : at_ ≤ 65535) (hb : bit ≤ 255) :
    Calls Try.prog 5 #[.string s, .int .u16 at_, .int .u8 bit] w fun e w' => e = .returned (.bool true) ∧ Below w.heap.size w w' := by
  obtain ⟨cap, W1, hconv, hbW, hlW, hcells⟩ := bytes_made s w
  have t0 : ((s.size : Int) == 0) = false := beq_eq_false_iff_ne.2 (by omega)
  have hj : at_ % s.size < s.size := Nat.mod_lt _ h0
  obtain ⟨hc, hf⟩ := hcells (at_ % s.size) hj
  have HCE := Lib.hid hcells; clear hcells
  go_enter Try.func5, Try.ntmps5
  go_wp2_with fail
  have hjl : at_ % s.size < s.data.toList.length := by simpa using hj
  have hbt : bit % 8 < 8 := Nat.mod_lt _ (by omega)
  have hval := flip_val s.data[at_ % s.size] (bit % 8) hbt
  have hne := flip_ne s.data[at_ % s.size] (bit % 8) hbt
  obtain ⟨u, hu⟩ : ∃ u, u = bits BinOp.xor IntKind.u8 (s.data[at_ % s.size].toNat : Int) ((2 : Int) ^ (bit % 8) % 256) := ⟨_, rfl⟩
  rw [← hu] at hval ⊢
  obtain ⟨d, hd⟩ : ∃ d, d = s.data[at_ % s.size] ^^^ UInt8.ofNat (2 ^ (bit % 8)) := ⟨_, rfl⟩
  rw [← hd] at hval hne
  obtain ⟨l, hl⟩ : ∃ l, l = s.data.toList.set (at_ % s.size) d := ⟨_, rfl⟩
  have hll : l.length = s.size := by rw [hl]; simp
  have hsum : crcSum l ≠ crcSum s.data.toList := by
    rw [hl]
    exact crcSum_ne_at s.data.toList (at_ % s.size) hjl d (by simpa using hne)
  have hck := crcCheck_other l s.data.toList hsum
  have hne1 : ((crcSum s.data.toList : Int) != (crcSum l : Int)) = true := by
    rw [bne_iff_ne]; omega
  obtain ⟨W2, hW2⟩ : ∃ W2, W2 = W1.setCell ⟨w.heap.size, at_ % s.size, none⟩ (.int .u8 u) := ⟨_, rfl⟩
  rw [← hW2]
  have hB2 : Below w.heap.size w W2 := by rw [hW2]; exact hbW.setCell (by simp) _
  have hcell2 : ∀ i, i < l.length → W2.cell? ⟨w.heap.size, i, none⟩ = some (.int .u8 (l.getD i 0).toNat) := by
    intro i hi
    rw [hll] at hi
    rw [hW2]
    by_cases e : at_ % s.size = i
    · subst e
      rw [cell_set_same hc, hval, hl]
      simp [List.getD_eq_getElem?_getD, hj]
    · rw [cell_set_off e, (HCE.out i hi).1, hl]
      simp [List.getD_eq_getElem?_getD, List.getElem?_set, e]
  have hsz2 : w.heap.size + 1 ≤ W2.heap.size := by rw [hW2]; simp [World.setCell]; omega
  have hcv : ∀ w', Below (w.heap.size + 1) W2 w' → (convert 32 9 (.slice (some ⟨w.heap.size, 0, none⟩) s.size cap)).run Try.prog w' = .ok (.string ⟨l.toArray⟩) w' := by
    intro w' hbw
    rw [← hll]
    exact string_of_cells w' w.heap.size cap l (fun i hi => by rw [hbw.cell (by simp)]; exact hcell2 i hi)
  have hBr := (Below.refl (w.heap.size + 1) W2).drew
  have ls : s.size ≤ 9223372036854775807 := by omega
  have ll : (⟨l.toArray⟩ : ByteArray).size ≤ 9223372036854775807 := by
    show l.toArray.size ≤ _
    rw [List.size_toArray]; omega
  have HCK := Lib.hid hck
  have HL := Lib.hid ll
  clear hconv hc hf HCE hbW hlW hu hd hval hne hl hll hsum hck hW2 hcell2 ll hjl hbt h0 t0 ha hb
  go_region_with (first
    | (go_at_call 7; refine (calls_in (awake_walk _) (by assumption) hsz2).mono ?_; rintro e w1 ⟨rfl, hb1⟩)
    | (go_at_call 13; refine (calls_in (four_walk s _ ls) (by assumption) hsz2).mono ?_; rintro e w1 ⟨rfl, hb1⟩)
    | (go_at_call 11; refine (calls_in (check_walk ⟨l.toArray⟩ _ _ HL.out) (by assumption) hsz2).mono ?_; rw [HCK.out]; rintro e w1 ⟨rfl, hb1⟩)
    | (go_at_call 8; refine (calls_in (sum_walk _ _ (by first | exact ls | exact HL.out)) (by assumption) hsz2).mono ?_; rintro e w1 ⟨rfl, hb1⟩))
  all_goals (go_wp2_with fail; go_ret)
  all_goals exact ⟨rfl, hB2.trans (hb1.mono (Nat.le_succ _))⟩

set_option maxHeartbeats 400000 in
theorem turn_far (s : ByteArray) (at_ bit : Nat) (w : World) (hs : s.size ≤ 9223372036854775807) (h : s.size = 0 ∨ 4000 < s.size) :
    Calls Try.prog 5 #[.string s, .int .u16 at_, .int .u8 bit] w fun e w' => e = .returned (.bool true) ∧ Below w.heap.size w w' := by
  by_cases h0 : s.size = 0
  · have t0 : ((s.size : Int) == 0) = true := beq_iff_eq.2 (by omega)
    clear h h0
    go_enter Try.func5, Try.ntmps5
    go_wp2_with (go_at_call 7; refine (awake_walk _).mono ?_; rintro e w1 ⟨rfl, hb1⟩)
    go_ret
    exact ⟨rfl, hb1⟩
  · have t0 : ((s.size : Int) == 0) = false := beq_eq_false_iff_ne.2 (by omega)
    have t1 : 4000 < s.size := by omega
    clear h h0
    go_enter Try.func5, Try.ntmps5
    go_wp2_with (go_at_call 7; refine (awake_walk _).mono ?_; rintro e w1 ⟨rfl, hb1⟩)
    go_ret
    exact ⟨rfl, hb1⟩

theorem contract (H : Type) (enc : TypeId × Value → H) (W : World) (base : Nat) (args : Array Value) (ds gs : List (DataW H)) (before : List MemPlace)
    (hval : ∀ (j : Nat) t v, Try.f5.params[j]? = some t → args[j]? = some v → Value.okWide Try.prog W .any base t v)
    (hW : DataW.Whole enc Try.prog Try.f5.params.toList Rows.crcTurnSpec.vars false W args.toList ds gs before) :
    Calls Try.prog 5 args W fun e W' => ∃ v, e = .returned v ∧ Rows.crcTurnSpec.post enc Try.prog Try.f5 false true false false W args v W' := by
  have hW' := hW
  obtain ⟨p, q, hA0, hV, rfl, hfz, hnd⟩ := hW
  have hA : DataW.TrodAll enc Try.prog W 0 (fun _ => true) true Try.f5.params.toList args.toList ds p := hA0
  rw [Try.params5] at hA hval
  obtain ⟨v0, vs0, d0, ds0, p0, q0, hargs, rfl, rfl, h0, r0⟩ := trodAll_cons hA
  obtain ⟨v1, vs1, d1, ds1, p1, q1, rfl, rfl, rfl, h1, r1⟩ := trodAll_cons r0
  obtain ⟨v2, vs2, d2, ds2, p2, q2, rfl, rfl, rfl, h2, r2⟩ := trodAll_cons r1
  obtain ⟨rfl, rfl, rfl⟩ := trodAll_nil r2
  obtain rfl : args = #[v0, v1, v2] := by cases args; simp_all
  obtain ⟨rfl, rfl⟩ := trodVars_none hV
  obtain ⟨s, rfl, rfl, rfl, hs⟩ := open_string Try.underlying9 (hval 0 9 v0 rfl rfl) h0
  obtain ⟨a, rfl, rfl, rfl, wa⟩ := open_int Try.underlying31 (hval 1 31 v1 rfl rfl) h1
  obtain ⟨b, rfl, rfl, rfl, wb⟩ := open_int Try.underlying5 (hval 2 5 v2 rfl rfl) h2
  have ba : 0 ≤ a ∧ a ≤ 65535 := by simpa [Lit.wf, IntKind.min, IntKind.max, IntKind.signed, IntKind.bits] using wa
  have bb : 0 ≤ b ∧ b ≤ 255 := by simpa [Lit.wf, IntKind.min, IntKind.max, IntKind.signed, IntKind.bits] using wb
  obtain ⟨x, rfl⟩ := Int.eq_ofNat_of_zero_le ba.1
  obtain ⟨y, rfl⟩ := Int.eq_ofNat_of_zero_le bb.1
  unfold maxLen at hs
  have hcall : Calls Try.prog 5 #[.string s, .int .u16 x, .int .u8 y] W fun e w' => e = .returned (.bool true) ∧ Below W.heap.size W w' := by
    by_cases hin : 0 < s.size ∧ s.size ≤ 4000
    · exact turn_mid s x y W hin.1 hin.2 (by omega) (by omega)
    · exact turn_far s x y W hs (by omega)
  refine hcall.mono fun e W' ⟨he, hb⟩ => ⟨_, he, ?_⟩
  exact post_law laidOut (by kernel_rfl) 4 rfl Try.underlying4 rfl rfl hW' hb

set_option maxRecDepth 100000 in
theorem lifted (os : Os) (started : os.Started) (H : Type) (enc : TypeId × Value → H) :
    ReturnsInHanded {} Try.checked os 5 .any (Rows.crcTurnSpec.pre6 enc Try.prog Try.f5 Rows.crcTurnRow.domain false) (Rows.crcTurnSpec.post enc Try.prog Try.f5 false true false false) := by
  refine returnsInHanded_of_change_sized (C := Try.checked) own started (by kernel_rfl) Try.func5
    (ChangeSpec.witness6 (enc := enc) (C := Try.checked) false ⟨#[], #[.string ByteArray.empty, .int .u16 0, .int .u8 0], []⟩ 8 (by kernel_rfl) (by kernel_rfl) (by kernel_rfl) (by kernel_rfl)) ?_
  intro W base args ds gs before hval hW _ _ _
  exact contract H enc W base args ds gs before hval hW

theorem proved : Rows.CrcTurnSaid :=
  OpenClaim.holds_of_wide 5 Try.f5 rfl rfl rfl rfl rfl rfl rfl ⟨rfl, rfl, rfl, rfl, rfl⟩ rfl rfl rfl rfl rfl (by kernel_rfl) Try.func5 (by kernel_rfl)
    (of_decide_eq_true (by kernel_rfl)) (by unfold Func.isWrapper; first | (rw [if_pos (by decide +kernel)]; kernel_rfl) | (rw [if_neg (by decide +kernel)]; exact ⟨rfl, rfl⟩))
    (fun os started H enc _ => lifted os started H enc)
end Go.Proofs.Yteddefjkmojmbaa.lawTurn
