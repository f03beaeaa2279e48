/-
  The walk of InboxOrder.
-/
import Derived.Test.YtkmchbmajfmbhaaInbE
import Derived.Deep.CutRange
namespace Go.Proofs.Ytkmchbmajfmbhaa
open Go.RowKit

/-- these truths lie there -/
def boolsAt (w : World) (ad : Option Addr) (l : List Bool) : Prop :=
  l = [] ∨ ∃ b off, ad = some ⟨b, off, none⟩ ∧ b < w.heap.size ∧ ∀ i (h : i < l.length), w.cell? ⟨b, off + i, none⟩ = some (.bool l[i])
theorem boolsAt_below {w w' : World} {B : Nat} {ad : Option Addr} {l : List Bool} (h : boolsAt w ad l) (hB : w.heap.size ≤ B) (hb : Below B w w') : boolsAt w' ad l := by
  rcases h with h | ⟨b, off, h1, h2, h3⟩
  · exact .inl h
  · refine .inr ⟨b, off, h1, by have := hb.size; omega, fun i hi => ?_⟩
    rw [hb.cell (p := ⟨b, off + i, none⟩) (by simp; omega)]
    exact h3 i hi

/-- the two slices lie in two blocks -/
def Apart (v u : Value) : Prop := ∀ k, ¬ (v.ownBlock = some k ∧ u.ownBlock = some k)
theorem Apart.kept {v u : Value} (h : Apart v u) : v.ownBlock = none ∨ v.ownBlock ≠ u.ownBlock := by
  cases hv : v.ownBlock with
  | none => exact .inl rfl
  | some k => exact .inr fun e => h k ⟨hv, e.symm⟩
theorem Apart.symm {v u : Value} (h : Apart v u) : Apart u v := fun k hk => h k ⟨hk.2, hk.1⟩
theorem Apart.moved {w : World} {base : Nat} {v v' u : Value} {l : List ByteArray} (h : Apart v u) (hu : Row w base u l) (hp : v'.ownBlock = v.ownBlock ∨ ∀ k, v'.ownBlock = some k → w.heap.size ≤ k) : Apart v' u := fun k hk => by
  rcases hp with e | e
  · exact h k ⟨by rw [← e]; exact hk.1, hk.2⟩
  · have := e k hk.1
    have := (hu.lt k hk.2).2
    omega
theorem src_row {w : World} {base : Nat} {v : Value} {l : List ByteArray} (h : Row w base v l) : Src Try.prog 1 22 v l.length (l.map Value.string) w :=
  src_own _ Try.underlying22 h (by intro u hu; simp only [List.mem_map] at hu; obtain ⟨x, _, rfl⟩ := hu; rfl)

theorem wpList_append_row {ops : Array Oper} {rest : List Oper} {o : Oper} {a : Act} {w : World} {Q : Exit → Act → World → Prop} (hgd : o.guard = none) (s x : Operand)
    (ho : o.op = .call { callee := .builtin .append, args := #[s, x], argTypes := #[22, 22] })
    (base : Nat) (v : Value) (l : List ByteArray) (hs : a.eval s = v) (hrow : Row w base v l)
    (xv : Value) (m : List ByteArray) (hx : a.eval x = xv) (hsrc : Src Try.prog 1 22 xv m.length (m.map Value.string) w)
    (hlen : l.length + m.length ≤ 100000) (hbase : base ≤ w.heap.size)
    (h : ∀ v' w', Row w' base v' (l ++ m) → w.grownBy w' v.ownBlock → (v'.ownBlock = v.ownBlock ∨ ∀ k, v'.ownBlock = some k → w.heap.size ≤ k) → wpList Try.prog ops Q rest (a.put o.dst v') w') : wpList Try.prog ops Q (o :: rest) a w := by
  obtain ⟨i0, hi, hz0, hz1, hz2⟩ := info_parts info_string
  refine wpList_append_at w hgd s x 22 22 ho base 9 i0 (.string ⟨#[]⟩) 1 16 Try.underlying22 hi hz0 hz1 hz2 rfl (by decide) v l.length _ hs hrow xv m.length _ hx hsrc (by unfold maxLen; omega) (by omega) hbase fun v' w' h1 h2 h3 => h v' w' ?_ h2 h3
  unfold Row
  rw [List.length_append, List.map_append]
  exact h1
theorem src_new {w : World} (x : ByteArray) (t : TypeId) : Src Try.prog 1 22 (.slice (some ⟨w.heap.size, 0, none⟩) 1 1) [x].length ([x].map Value.string) (w.alloc (.cells #[.string x] t)) :=
  src_one _ Try.underlying22 _ _ rfl _

set_option maxHeartbeats 4000000 in
theorem inboxOrder_walk (m : Nat) (hm : m ≤ 255) (ad ad2 : Option Addr) (cap cap2 : Nat) (l : List ByteArray) (bs : List Bool) (w : World) (hl : strsAt w ad l) (hbs : boolsAt w ad2 bs) (hs : l.length ≤ 9223372036854775807) (hs2 : bs.length ≤ 9223372036854775807) :
    Calls Try.prog 3 #[.int .u8 m, .slice ad l.length cap, .slice ad2 bs.length cap2] w fun e w' => e = .returned (.bool true) ∧ Below w.heap.size w w' := by
  have HL := Lib.hid hl; have HBS := Lib.hid hbs
  clear hl hbs
  go_enter Try.func3, Try.ntmps3
  have hw : wrap64 ((m : Int) + 1) = (m : Int) + 1 := IntWalk.wrap64_in _ ⟨by omega, by omega⟩
  go_wp2_with fail
  refine (new_box (m + 1) w (by omega) (by omega)).mono ?_
  rintro e w1 ⟨rfl, hb1, hx1⟩
  obtain ⟨p, hp⟩ : ∃ p, p = w.heap.size + 1 := ⟨_, rfl⟩
  obtain ⟨c, hc⟩ : ∃ c, c = w.heap.size := ⟨_, rfl⟩
  rw [← hp] at hx1 ⊢
  rw [← hc] at hx1
  have HC := Lib.hid hc
  clear hp hc hw
  go_wp2_with fail
  refine (awake_walk _).mono ?_
  rintro e w2 ⟨rfl, hb2⟩
  have hx2 := hx1.keep hb2 hx1.lt.1 hx1.lt.2
  have hB2 := hb1.trans (hb2.mono hb1.size)
  clear hx1 hb1 hb2
  go_wp2_with fail
  obtain ⟨B, hB⟩ : ∃ B, B = w.heap.size := ⟨_, rfl⟩
  rw [← hB] at hB2
  have HB := Lib.hid hB
  clear hB
  go_loopg [9, 10, 11] l.length (fun gk vin vout i wr => ∃ k lin lout q, k + gk = l.length ∧ k ≤ 100 ∧ i = .int .i64 (k : Nat) ∧ Row wr B vin lin ∧ Row wr B vout lout ∧ BoxAt wr p c (m + 1) q ∧ lin = lout ++ q ∧ lin.length ≤ k ∧ Apart vin vout ∧ Below B w wr)
  case atStart => exact ⟨0, [], [], [], by omega, by omega, rfl, Row.nil _ _, Row.nil _ _, hx2, rfl, by simp, fun k hk => by simp [Value.ownBlock] at hk, hB2⟩
  case round =>
    obtain ⟨k, lin, lout, q, hgk, hk100, rfl, hin, hout, hbox, heq, hlen, hap, hb⟩ := hrel
    have HIN := Lib.hid hin; have HOUT := Lib.hid hout; have HBX := Lib.hid hbox; have HEQ := Lib.hid heq; have HLN := Lib.hid hlen; have HAP := Lib.hid hap; have HBB := Lib.hid hb
    clear hin hout hbox heq hlen hap hb hx2 hB2
    by_cases hgo : k < l.length ∧ k < 100
    · obtain ⟨hkl, hk1⟩ := hgo
      rcases HL.out with hat | ⟨bl, off, rfl, hbl, hcs⟩
      · simp [hat] at hkl
      have hblc : bl ≠ c := by have := HC.out; omega
      have hc : wr.cell? ⟨bl, off + k, none⟩ = some (.string l[k]) := (HBB.out.cell (p := ⟨bl, off + k, none⟩) (by simp; have := HB.out; omega)).trans (hcs k hkl)
      obtain ⟨x, hx⟩ : ∃ x, x = l[k] := ⟨_, rfl⟩
      rw [← hx] at hc
      clear hcs hx
      go_upto_region 8 with fail
      go_cut [54] from 31 to 81 (fun s54 wx => ∃ b : Bool, s54 = .bool b ∧ BoxAt wx p c (m + 1) (if b then q ++ [x] else q) ∧ wr.grownBy wx (some c) ∧ wx.cell? ⟨bl, off + k, none⟩ = some (.string x))
      case first =>
        by_cases hsz : (x.size : Int) < 200
        · by_cases hroom : q.length < m + 1
          · go_wp2_with fail
            refine (put_room p c _ q x _ HBX.out hroom).mono ?_
            rintro e w3 ⟨rfl, hg3, hx3⟩
            go_wp2_with fail
            go_meet
            exact ⟨true, rfl, hx3, hg3, hg3.cell hc (by intro e; cases e; exact hblc rfl)⟩
          · go_wp2_with fail
            refine (put_full p c _ q x _ HBX.out (by omega)).mono ?_
            rintro e w3 ⟨rfl, rfl⟩
            go_wp2_with fail
            go_meet
            exact ⟨false, rfl, HBX.out, World.grownBy.refl _ _, hc⟩
        · go_wp2_with fail
          go_meet
          exact ⟨false, rfl, HBX.out, World.grownBy.refl _ _, hc⟩
      case rest =>
      obtain ⟨b, rfl, hbx, hgr, hcx⟩ := hcut
      have hin1 := HIN.out.grown hgr (.inr (HIN.out.ne_box HBX.out).2)
      have hout1 := HOUT.out.grown hgr (.inr (HOUT.out.ne_box HBX.out).2)
      have hbel := below_of_grown HBB.out hgr (Nat.le_trans (Nat.le_of_eq HB.out) HBB.out.size) (fun j hj => by have := HC.out; have := HB.out; cases hj; omega)
      have K1 := Lib.hid hin1; have K2 := Lib.hid hout1; have K3 := Lib.hid hbx; have K4 := Lib.hid hbel
      clear hin1 hout1 hbx hbel hgr HIN HOUT HBX HBB hc
      go_upto_if 54 with fail
      go_cut [9] from 31 to 81 (fun s9 wx => ∃ lin' q', Row wx B s9 lin' ∧ Row wx B u10 lout ∧ BoxAt wx p c (m + 1) q' ∧ lin' = lout ++ q' ∧ lin'.length ≤ k + 1 ∧ Apart s9 u10 ∧ Below B w wx)
      case first =>
        cases b
        · go_wp2_with fail
          go_meet
          exact ⟨lin, q, K1.out, K2.out, K3.out, HEQ.out, by have := HLN.out; omega, HAP.out, K4.out⟩
        · have hBs := Nat.le_trans (Nat.le_of_eq HB.out) K4.out.size
          have HBs := Lib.hid hBs
          clear hBs
          go_wp2_with (at_builtin; refine wpList_append_row rfl _ _ rfl B _ lin rfl (World.ownsRow.alloc K1.out _) _ [x] rfl (src_new x _) ?_ ?_ ?_)
          · have := HLN.out; simp; omega
          · have := HBs.out; simp; omega
          intro v' w3 hr3 hg3 hp3
          have hb3 := (K4.out.alloc HBs.out (.cells #[.string x] 9))
          have hx3 := K3.out.keep ((Below.refl wc.heap.size wc).alloc (Nat.le_refl _) (.cells #[.string x] 9)) K3.out.lt.1 K3.out.lt.2
          have hi3 : Row (wc.alloc (.cells #[.string x] 9)) B u9 lin := World.ownsRow.alloc K1.out _
          have ho3 : Row (wc.alloc (.cells #[.string x] 9)) B u10 lout := World.ownsRow.alloc K2.out _
          have hne := hi3.ne_box hx3
          have M1 := Lib.hid hr3
          have M2 := Lib.hid (ho3.grown hg3 HAP.out.symm.kept)
          have M3 := Lib.hid (hx3.grown hg3 (fun e => hne.1 e.symm) (fun e => hne.2 e.symm))
          have M4 := Lib.hid (below_of_grown hb3 hg3 (by have := HBs.out; simp; omega) (fun j hj => (hi3.lt j hj).1))
          have M5 := Lib.hid (HAP.out.moved ho3 (by rw [World.size_alloc]; exact hp3))
          clear hr3 hg3 hp3 hb3 hx3 hi3 ho3 hne
          go_wp2_with fail
          go_meet
          exact ⟨lin ++ [x], q ++ [x], M1.out, M2.out, M3.out, by rw [HEQ.out]; simp, by have := HLN.out; simp; omega, M5.out, M4.out⟩
      case rest =>
      obtain ⟨lin', q', hin, hout, hbox, heq, hlen, hap, hb⟩ := hcut
      clear K1 K2 K3 K4 HEQ HLN HAP hcx
      have HIN := Lib.hid hin; have HOUT := Lib.hid hout; have HBX := Lib.hid hbox; have HEQ := Lib.hid heq; have HLN := Lib.hid hlen; have HAP := Lib.hid hap; have HBB := Lib.hid hb
      clear hin hout hbox heq hlen hap hb
      have hget : (¬ k < bs.length) ∨ ∃ (hk : k < bs.length) (v : Bool) (bq oq : Nat), ad2 = some ⟨bq, oq, none⟩ ∧ wc.cell? ⟨bq, oq + k, none⟩ = some (.bool v) := by
        by_cases hk : k < bs.length
        · rcases HBS.out with hat | ⟨bq, oq, e, hbl2, hcs⟩
          · simp [hat] at hk
          · exact .inr ⟨hk, bs[k], bq, oq, e, (HBB.out.cell (p := ⟨bq, oq + k, none⟩) (by simp; have := HB.out; omega)).trans (hcs k hk)⟩
        · exact .inl hk
      rcases hget with hk | ⟨hk, v, bq, oq, rfl, hcq⟩
      · go_wp2_with fail
        go_roundg (gk - 1)
        case measure => omega
        case rel => exact ⟨k + 1, lin', lout, q', by omega, by omega, by go_num, HIN.out, HOUT.out, HBX.out, HEQ.out, HLN.out, HAP.out, HBB.out⟩
      · cases v
        · go_wp2_with fail
          go_roundg (gk - 1)
          case measure => omega
          case rel => exact ⟨k + 1, lin', lout, q', by omega, by omega, by go_num, HIN.out, HOUT.out, HBX.out, HEQ.out, HLN.out, HAP.out, HBB.out⟩
        · cases q' with
          | nil =>
            go_wp2_with fail
            refine (get_none p c _ _ HBX.out).mono ?_
            rintro e w3 ⟨rfl, rfl⟩
            go_wp2_with fail
            go_roundg (gk - 1)
            case measure => omega
            case rel => exact ⟨k + 1, lin', lout, [], by omega, by omega, by go_num, HIN.out, HOUT.out, HBX.out, HEQ.out, HLN.out, HAP.out, HBB.out⟩
          | cons y r =>
            go_wp2_with fail
            refine (get_some p c _ y r _ HBX.out).mono ?_
            rintro e w3 ⟨rfl, hg3, hx3⟩
            have hin3 := HIN.out.grown hg3 (.inr (HIN.out.ne_box HBX.out).2)
            have hout3 := HOUT.out.grown hg3 (.inr (HOUT.out.ne_box HBX.out).2)
            have hbel := below_of_grown HBB.out hg3 (Nat.le_trans (Nat.le_of_eq HB.out) HBB.out.size) (fun j hj => by have := HC.out; have := HB.out; cases hj; omega)
            have K1 := Lib.hid hin3; have K2 := Lib.hid hout3; have K3 := Lib.hid hx3; have K4 := Lib.hid hbel
            clear hin3 hout3 hx3 hbel hg3 HIN HOUT HBX HBB hcq
            have hBs := Nat.le_trans (Nat.le_of_eq HB.out) K4.out.size
            have HBs := Lib.hid hBs
            clear hBs
            have hlo : lout.length ≤ k := by have h1 := HLN.out; rw [HEQ.out] at h1; simp at h1; omega
            go_wp2_with (at_builtin; refine wpList_append_row rfl _ _ rfl B _ lout rfl (World.ownsRow.alloc K2.out _) _ [y] rfl (src_new y _) ?_ ?_ ?_)
            · simp; omega
            · have := HBs.out; simp; omega
            intro v' w4 hr4 hg4 hp4
            have hb4 := (K4.out.alloc HBs.out (.cells #[.string y] 9))
            have hx4 := K3.out.keep ((Below.refl w3.heap.size w3).alloc (Nat.le_refl _) (.cells #[.string y] 9)) K3.out.lt.1 K3.out.lt.2
            have hi4 : Row (w3.alloc (.cells #[.string y] 9)) B u9 lin' := World.ownsRow.alloc K1.out _
            have ho4 : Row (w3.alloc (.cells #[.string y] 9)) B u10 lout := World.ownsRow.alloc K2.out _
            have hne := ho4.ne_box hx4
            have M1 := Lib.hid (hi4.grown hg4 HAP.out.kept)
            have M2 := Lib.hid hr4
            have M3 := Lib.hid (hx4.grown hg4 (fun e => hne.1 e.symm) (fun e => hne.2 e.symm))
            have M4 := Lib.hid (below_of_grown hb4 hg4 (by have := HBs.out; simp; omega) (fun j hj => (ho4.lt j hj).1))
            have M5 := Lib.hid (HAP.out.symm.moved hi4 (by rw [World.size_alloc]; exact hp4)).symm
            clear hr4 hg4 hp4 hb4 hx4 hi4 ho4 hne
            go_wp2_with fail
            go_roundg (gk - 1)
            case measure => omega
            case rel => exact ⟨k + 1, lin', lout ++ [y], r, by omega, by omega, by go_num, M1.out, M2.out, M3.out, by rw [HEQ.out]; simp, HLN.out, M5.out, M4.out⟩
    · have hq256 : q.length ≤ 256 := Nat.le_trans HBX.out.2.2.1.1 HBX.out.2.2.1.2
      have hl100 : lin.length ≤ 100 := by have := HLN.out; omega
      have hlo : lout.length + q.length ≤ 100 := by rw [HEQ.out] at hl100; simpa using hl100
      have hstop : ¬ k < l.length ∨ (k < l.length ∧ ¬ k < 100) := by omega
      clear hgo
      rcases hstop with hst | ⟨hst, hst2⟩
      all_goals
        go_wp2_with fail
        refine (drain_walk p c _ q 300 _ HBX.out).mono ?_
        rintro e w3 ⟨vd, rfl, hrd, hg3, hx3⟩
        rw [show (300 : Int).toNat = 300 from rfl, List.take_of_length_le (by omega)] at hrd
        have hin3 := HIN.out.grown hg3 (.inr (HIN.out.ne_box HBX.out).2)
        have hout3 := HOUT.out.grown hg3 (.inr (HOUT.out.ne_box HBX.out).2)
        have hbel := below_of_grown HBB.out hg3 (Nat.le_trans (Nat.le_of_eq HB.out) HBB.out.size) (fun j hj => by have := HC.out; have := HB.out; cases hj; omega)
        have K1 := Lib.hid hin3; have K2 := Lib.hid hout3; have K4 := Lib.hid hbel; have K5 := Lib.hid hrd
        clear hin3 hout3 hx3 hbel hg3 hrd HIN HOUT HBX HBB
        have HBs := Lib.hid (Nat.le_trans (Nat.le_of_eq HB.out) K4.out.size)
        go_wp2_with (at_builtin; refine wpList_append_row rfl _ _ rfl B _ lout rfl K2.out _ q rfl (src_row K5.out) ?_ ?_ ?_)
        · omega
        · exact HBs.out
        intro v' w4 hr4 hg4 hp4
        have heq4 := HEQ.out
        obtain ⟨lo, hlo2⟩ : ∃ lo, lo = lout ++ q := ⟨_, rfl⟩
        rw [← hlo2] at hr4 heq4
        have HEQ4 := Lib.hid heq4
        clear hlo2 heq4
        have hin4 := K1.out.grown hg4 HAP.out.kept
        have hb4 := below_of_grown K4.out hg4 HBs.out (fun j hj => (K2.out.lt j hj).1)
        obtain ⟨adi, capi, hi1, hs1⟩ := hin4.form
        obtain ⟨ado, capo, ho1, hs2⟩ := hr4.form
        subst hi1 ho1
        have HBF := Lib.hid hb4; have H1 := Lib.hid hs1; have H2 := Lib.hid hs2
        clear hr4 hg4 hp4 hin4 hb4 hs1 hs2 K1 K2 K4 K5
        go_wp2_with fail
        refine (texts_walk adi ado capi capo lin lo _ H1.out H2.out (by omega)).mono ?_
        rintro e w5 ⟨rfl, hb5⟩
        have hBs2 := Nat.le_trans (Nat.le_of_eq HB.out) HBF.out.size
        have HF := Lib.hid (HBF.out.trans (hb5.mono hBs2))
        clear hb5 hBs2
        go_wp2_with fail
        go_ret
        refine ⟨ret_bool (decide_eq_true HEQ4.out), ?_⟩
        rw [← HB.out]
        exact HF.out
end Go.Proofs.Ytkmchbmajfmbhaa
