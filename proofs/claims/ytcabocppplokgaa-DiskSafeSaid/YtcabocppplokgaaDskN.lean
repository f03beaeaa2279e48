/-
  The walk of DiskSafe.
-/
import Derived.Test.YtcabocppplokgaaDskM
import Derived.Test.YtcabocppplokgaaFork
namespace Go.Proofs.Ytcabocppplokgaa
open Go.RowKit

theorem str_key : Go.Maps.Keyed Try.prog 9 := Go.Maps.string_keyed Try.underlying9
/-- where the law's things lie -/
structure SafeW (w wr : World) (p : Nat) (F : Nat → Prop) (st : Dk) (ob sb db : Nat) (once : Lit → Option Value) (no : Nat) (safe : Nat → ByteArray) (dirty : Nat → Bool) : Prop where
  disk : Disk wr p F st
  low : Below w.heap.size w wr ∧ ∀ k, F k → w.heap.size ≤ k
  sf : wr.heap[sb]? = some (.cells (arrOf (fun i => .string (safe i)) 16) 30 (0, 0))
  dr : wr.heap[db]? = some (.cells (arrOf (fun i => .bool (dirty i)) 16) 31 (0, 0))
  on : MapL Try.prog 9 wr ob once no
  apart : ¬ F sb ∧ ¬ F db ∧ ¬ F ob
  high : w.heap.size ≤ sb ∧ w.heap.size ≤ db ∧ w.heap.size ≤ ob
section
variable {w wr w' : World} {p : Nat} {F F' : Nat → Prop} {st st' : Dk} {ob sb db : Nat} {once : Lit → Option Value} {no : Nat} {safe : Nat → ByteArray} {dirty : Nat → Bool}
theorem SafeW.sd (h : SafeW w wr p F st ob sb db once no safe dirty) : sb ≠ db := by
  rintro rfl
  have := h.sf
  rw [h.dr] at this
  simp at this
theorem SafeW.so (h : SafeW w wr p F st ob sb db once no safe dirty) : sb ≠ ob ∧ db ≠ ob := by
  obtain ⟨es, c, hm⟩ := h.on.obj
  constructor
  · rintro rfl; rw [h.sf] at hm; cases hm
  · rintro rfl; rw [h.dr] at hm; cases hm
theorem SafeW.stp (h : SafeW w wr p F st ob sb db once no safe dirty) (hd : Disk w' p F' st') (hs : Stp F wr F' w') : SafeW w w' p F' st' ob sb db once no safe dirty where
  disk := hd
  low := hs.below h.low.1 h.low.1.size h.low.2
  sf := (hs.touch.block sb (lt_of_block h.sf) h.apart.1).trans h.sf
  dr := (hs.touch.block db (lt_of_block h.dr) h.apart.2.1).trans h.dr
  on := h.on.same (hs.touch.block ob h.on.lt h.apart.2.2)
  apart := ⟨fun hf => (hs.new sb hf).elim h.apart.1 (fun e => by have := lt_of_block h.sf; omega), fun hf => (hs.new db hf).elim h.apart.2.1 (fun e => by have := lt_of_block h.dr; omega), fun hf => (hs.new ob hf).elim h.apart.2.2 (fun e => by have := h.on.lt; omega)⟩
  high := h.high
theorem SafeW.below (h : SafeW w wr p F st ob sb db once no safe dirty) (hb : Below wr.heap.size wr w') : SafeW w w' p F st ob sb db once no safe dirty :=
  h.stp (h.disk.below hb) (Stp.ofBelow F hb)
/-- one of the law's own blocks is touched -/
theorem SafeW.low1 (h : SafeW w wr p F st ob sb db once no safe dirty) {b : Nat} (ht : Touch (fun k => k = b) wr w') (hb : w.heap.size ≤ b) (hF : ¬ F b) : Disk w' p F st ∧ Below w.heap.size w w' :=
  ⟨h.disk.touch ht (fun k hk e => hF (by rw [← e]; exact hk)), ht.below h.low.1 h.low.1.size (fun k e => by rw [e]; exact hb)⟩
theorem SafeW.setSafe (h : SafeW w wr p F st ob sb db once no safe dirty) (i : Nat) (x : ByteArray) : SafeW w (wr.setCell ⟨sb, i, none⟩ (.string x)) p F st ob sb db once no (fun j => if j = i then x else safe j) dirty := by
  have ht : Touch (fun k => k = sb) wr (wr.setCell ⟨sb, i, none⟩ (.string x)) := (Touch.refl _ _).setCell (F := fun k => k = sb) rfl _
  obtain ⟨h1, h2⟩ := h.low1 ht h.high.1 h.apart.1
  refine ⟨h1, ⟨h2, h.low.2⟩, ?_, (ht.block db (lt_of_block h.dr) (fun e => h.sd e.symm)).trans h.dr, h.on.same (ht.block ob h.on.lt (fun e => h.so.1 e.symm)), h.apart, h.high⟩
  rw [set_at h.sf, arrOf_set]
  congr 2
  exact arrOf_congr (fun j _ => by by_cases e : j = i <;> simp [e])
theorem SafeW.setDirty (h : SafeW w wr p F st ob sb db once no safe dirty) (i : Nat) (x : Bool) : SafeW w (wr.setCell ⟨db, i, none⟩ (.bool x)) p F st ob sb db once no safe (fun j => if j = i then x else dirty j) := by
  have ht : Touch (fun k => k = db) wr (wr.setCell ⟨db, i, none⟩ (.bool x)) := (Touch.refl _ _).setCell (F := fun k => k = db) rfl _
  obtain ⟨h1, h2⟩ := h.low1 ht h.high.2.1 h.apart.2.1
  refine ⟨h1, ⟨h2, h.low.2⟩, (ht.block sb (lt_of_block h.sf) h.sd).trans h.sf, ?_, h.on.same (ht.block ob h.on.lt (fun e => h.so.2 e.symm)), h.apart, h.high⟩
  rw [set_at h.dr, arrOf_set]
  congr 2
  exact arrOf_congr (fun j _ => by by_cases e : j = i <;> simp [e])
theorem SafeW.setOnce (h : SafeW w wr p F st ob sb db once no safe dirty) {once' : Lit → Option Value} {no' : Nat} (hm : MapL Try.prog 9 w' ob once' no') (hg : wr.grownBy w' (some ob)) : SafeW w w' p F st ob sb db once' no' safe dirty := by
  have ht : Touch (fun k => k = ob) wr w' := Touch.ofGrown hg (fun k e => (Option.some.inj e).symm)
  obtain ⟨h1, h2⟩ := h.low1 ht h.high.2.2 h.apart.2.2
  exact ⟨h1, ⟨h2, h.low.2⟩, (ht.block sb (lt_of_block h.sf) h.so.1).trans h.sf, (ht.block db (lt_of_block h.dr) h.so.2).trans h.dr, hm, h.apart, h.high⟩
theorem SafeW.cs (h : SafeW w wr p F st ob sb db once no safe dirty) (i : Nat) (hi : i < 16) : wr.cell? ⟨sb, i, none⟩ = some (.string (safe i)) := cell_at h.sf (arrOf_get _ hi)
theorem SafeW.cd (h : SafeW w wr p F st ob sb db once no safe dirty) (i : Nat) (hi : i < 16) : wr.cell? ⟨db, i, none⟩ = some (.bool (dirty i)) := cell_at h.dr (arrOf_get _ hi)
end

/-- the law's three blocks -/
def laid3 (w : World) : World := ((w.alloc (.map #[] 0)).alloc (.cells (arrOf (fun _ => .string ⟨#[]⟩) 16) 30)).alloc (.cells (arrOf (fun _ => .bool false) 16) 31)
theorem safe_new {w w2 : World} {p : Nat} {F : Nat → Prop} {st : Dk} (hd : Disk w2 p F st) (hb : Below w.heap.size w w2) (hF : ∀ k, F k → w.heap.size ≤ k) :
    SafeW w (laid3 w2) p F st w2.heap.size (w2.heap.size + 1) (w2.heap.size + 1 + 1) (fun _ => none) 0 (fun _ => ⟨#[]⟩) (fun _ => false) := by
  have hs := hb.size
  have hB : Below w2.heap.size w2 (laid3 w2) := (((Below.refl _ _).alloc (Nat.le_refl _) _).alloc (by simp) _).alloc (by simp; omega) _
  have hm := MapL.made w2 Try.prog 9
  refine ⟨hd.below hB, ⟨hb.trans (hB.mono hs), hF⟩, ?_, ?_, ?_, ⟨fun h => by have := hd.lt _ h; omega, fun h => by have := hd.lt _ h; omega, fun h => by have := hd.lt _ h; omega⟩, by omega, by omega, hs⟩
  · unfold laid3
    rw [heap_alloc_lt _ _ _ (by simp)]
    have := heap_alloc_top (w2.alloc (.map #[] 0)) (.cells (arrOf (fun _ => .string ⟨#[]⟩) 16) 30)
    rw [show (w2.alloc (.map #[] 0)).heap.size = w2.heap.size + 1 by simp] at this
    exact this
  · unfold laid3
    have := heap_alloc_top ((w2.alloc (.map #[] 0)).alloc (.cells (arrOf (fun _ => .string ⟨#[]⟩) 16) 30)) (.cells (arrOf (fun _ => .bool false) 16) 31)
    rw [show ((w2.alloc (.map #[] 0)).alloc (.cells (arrOf (fun _ => .string ⟨#[]⟩) 16) 30)).heap.size = w2.heap.size + 1 + 1 by simp] at this
    exact this
  · refine hm.same ?_
    unfold laid3
    rw [heap_alloc_lt _ _ _ (by simp; omega), heap_alloc_lt _ _ _ (by simp)]

/-- the key of a text at a place -/
def okey (k : Nat) (f : Sec) : Lit := .string (UInt8.ofNat k :: f)
/-- whether it was written once -/
def wasOnce (once : Lit → Option Value) (k : Nat) (f : Sec) : Prop := once (okey k f) = some (.bool true)

theorem place (x : Int) (n : Nat) (h1 : 1 ≤ n) (h2 : n ≤ 16) : ∃ q : Nat, q < n ∧ wrap64 ((IntKind.u64.wrap x).tmod n) = (q : Int) := by
  have h0 : 0 ≤ IntKind.u64.wrap x := by
    have : IntKind.u64.wrap x = x % 18446744073709551616 := by simp [IntKind.wrap, IntKind.signed, IntKind.bits]
    rw [this]
    omega
  obtain ⟨y, hy⟩ := Int.eq_ofNat_of_zero_le h0
  rw [hy]
  have e : ((y : Nat) : Int).tmod (n : Nat) = ((y % n : Nat) : Int) := rfl
  have hl := Nat.mod_lt y (by omega : 0 < n)
  refine ⟨y % n, hl, ?_⟩
  rw [e]
  generalize y % n = z at hl
  exact IntWalk.wrap64_in _ ⟨by omega, by omega⟩

theorem wp_convert {P : Program} {o : Oper} {a : Act} {w : World} {K : Act → World → Prop} {Q : Exit → Act → World → Prop} (t t' : TypeId) (x : Operand) (ho : o.op = .convert t t' x) {v u : Value} (hx : a.eval x = v)
    (hr : (convert t t' v).run P w = .ok u w) (h : K (a.put o.dst u) w) : o.wp P a w K Q := by
  unfold Oper.wp execOp
  simp only [ho, hx, Sem.run_bind, hr, Result.andThen_ok, Sem.run_pure]
  exact h
theorem zbool (w : World) : (zeroValue 4).run Try.prog w = .ok (.bool false) w := by kernel_rfl
theorem str_byte (w : World) (E : Nat) (x8 : UInt8) (h : w.cell? ⟨E, 0, none⟩ = some (.int .u8 x8.toNat)) : (convert 40 9 (.slice (some ⟨E, 0, none⟩) 1 1)).run Try.prog w = .ok (.string (txt [x8])) w :=
  string_of_cells w E 1 [x8] (fun i hi => by
    obtain rfl : i = 0 := by simpa using hi
    exact h)
theorem byte_of (q : Nat) (h : q < 16) : IntKind.u8.wrap (q : Int) = ((UInt8.ofNat q).toNat : Int) := by
  have h1 : IntKind.u8.wrap (q : Int) = (q : Int) % 256 := by simp [IntKind.wrap, IntKind.signed, IntKind.bits]
  have h2 : (UInt8.ofNat q).toNat = q % 256 := by simp
  rw [h1, h2]
  omega

set_option maxHeartbeats 4000000 in
set_option maxRecDepth 8000 in
theorem diskSafe_walk (m : Nat) (ad : Option Addr) (cap : Nat) (l : List DAct) (adk : Option Addr) (capk : Nat) (keep : List Int) (w : World) (hm : m ≤ 255) (hl : dactsAt w ad l) (hok : ∀ a ∈ l, dactOk w a) (hll : l.length ≤ 9223372036854775807)
    (hki : intsAt w adk keep) (hkl : keep.length ≤ 9223372036854775807) (hkr : ∀ x ∈ keep, -9223372036854775808 ≤ x ∧ x ≤ 9223372036854775807) :
    Calls Try.prog 3 #[.int .u8 m, .slice ad l.length cap, .slice adk keep.length capk] w fun e w' => e = .returned (.bool true) ∧ Below w.heap.size w w' := by
  have HL := Lib.hid hl; have HOK := Lib.hid hok; have HKI := Lib.hid hki; have HKL := Lib.hid hkl; have HKR := Lib.hid hkr
  obtain ⟨n, hn⟩ : ∃ n, n = m % 16 + 1 := ⟨_, rfl⟩
  have hn16 : 1 ≤ n ∧ n ≤ 16 := by omega
  obtain ⟨h1, h2⟩ := hn16
  have HN := Lib.hid hn; have HN16 := Lib.hid (And.intro h1 h2)
  clear hl hok hki hkl hkr hn
  go_enter Try.func3, Try.ntmps3
  go_wp2_with fail
  have hmn : ((m : Int) % 16 + 1) = (n : Int) := by have := HN.out; omega
  rw [hmn]
  clear hmn
  refine (new_disk n w HN16.out.1 (by have := HN16.out.2; omega)).mono ?_
  rintro e w1 ⟨p, F, rfl, hb1, hd1, hF1⟩
  have KA := Lib.hid (awake_walk w1)
  have HB1 := Lib.hid hb1; have HD1 := Lib.hid hd1; have HF1 := Lib.hid hF1
  clear hb1 hd1 hF1
  go_wp2_with fail
  refine KA.out.mono ?_
  rintro e w2 ⟨rfl, hb2⟩
  have HB2 := Lib.hid hb2
  clear hb2 KA
  have hmm := @run_makeMap Try.prog
  go_upto_region 8 with fail
  clear hmm
  refine wp_world (W := laid3 w2) (by kernel_rfl) ?_
  have hs0 := safe_new (HD1.out.below HB2.out) (HB1.out.trans (HB2.out.mono HB1.out.size)) HF1.out
  obtain ⟨ob, hob⟩ : ∃ ob, ob = w2.heap.size := ⟨_, rfl⟩
  obtain ⟨sb, hsb⟩ : ∃ sb, sb = w2.heap.size + 1 := ⟨_, rfl⟩
  obtain ⟨db, hdb⟩ : ∃ db, db = w2.heap.size + 1 + 1 := ⟨_, rfl⟩
  rw [← hdb, ← hsb, ← hob] at hs0 ⊢
  clear hob hsb hdb
  have HS0 := Lib.hid hs0
  clear hs0 HD1 HB1 HB2 HF1
  generalize laid3 w2 = w3 at HS0 ⊢
  go_wp2_with fail
  go_loopg [13] n (fun gk i wr => ∃ k : Nat, k + gk = n ∧ i = .int .i64 (k : Nat) ∧ SafeW w wr p F ⟨List.replicate n [z64], 0, 0, false⟩ ob sb db (fun _ => none) 0 (fun j => if j < k then txt z64 else ⟨#[]⟩) (fun _ => false))
  case atStart => exact ⟨0, by omega, rfl, by simpa using HS0.out⟩
  case round =>
    obtain ⟨k, hgk, rfl, hs⟩ := hrel
    have HS := Lib.hid hs
    clear hs
    have HGK := Lib.hid hgk
    clear hgk
    by_cases hlt : (k : Int) < (n : Int)
    · have hk16 : (k : Int) < 16 := by have := HN16.out.2; omega
      have KF := Lib.hid (fill_walk ⟨#[]⟩ wr (by show 0 ≤ 64; omega))
      go_wp2_with fail
      refine KF.out.mono ?_
      rintro e w4 ⟨rfl, hb4⟩
      have hs4 := HS.out.below hb4
      have hc := hs4.cs k (by omega)
      have hf := free_at hs4.sf k
      have hz : txt (fill ⟨#[]⟩) = txt z64 := rfl
      rw [hz]
      have hs5 : SafeW w (w4.setCell ⟨sb, k, none⟩ (.string (txt z64))) p F ⟨List.replicate n [z64], 0, 0, false⟩ ob sb db (fun _ => none) 0 (fun j => if j < k + 1 then txt z64 else ⟨#[]⟩) (fun _ => false) := by
        have := hs4.setSafe k (txt z64)
        rw [show (fun j => if j = k then txt z64 else if j < k then txt z64 else ⟨#[]⟩) = (fun j => if j < k + 1 then txt z64 else (⟨#[]⟩ : ByteArray)) from funext fun j => by
          by_cases h1 : j = k
          · rw [if_pos h1, if_pos (by omega)]
          · rw [if_neg h1]
            by_cases h2 : j < k
            · rw [if_pos h2, if_pos (by omega)]
            · rw [if_neg h2, if_neg (by omega)]] at this
        exact this
      obtain ⟨z, hzz⟩ : ∃ z, z = txt z64 := ⟨_, rfl⟩
      have HS5 := Lib.hid hs5; have HZ := Lib.hid hzz
      rw [← hzz]
      clear hs4 hb4 hs5 KF hz hzz
      go_wp2_with fail
      rw [HZ.out]
      go_roundg (gk - 1)
      case measure => have := HGK.out; omega
      case rel => exact ⟨k + 1, by have := HGK.out; omega, by go_num, HS5.out⟩
    · have hkn : n = k := by have := HGK.out; omega
      subst hkn
      have hkn0 : Knows ⟨List.replicate n [z64], 0, 0, false⟩ n (fun j => if j < n then txt z64 else ⟨#[]⟩) (fun _ => false) (wasOnce (fun _ => none)) := by
        have h := Knows.new n
        exact ⟨h.len, h.arm, h.up, fun k hk => by rw [if_pos hk]; exact h.sf k hk, h.dr, fun k hk f hf => (h.on k hk f hf).elim⟩
      have KN := Lib.hid hkn0
      clear hkn0
      go_wp2_with fail
      go_loopg [14] l.length (fun gk i wr => ∃ k F st once no safe dirty, k + gk = l.length ∧ i = .int .i64 (k : Nat) ∧ SafeW w wr p F st ob sb db once no safe dirty ∧ Knows st n safe dirty (wasOnce once) ∧ pendMax st.S k ∧ no ≤ k ∧ k ≤ 60)
      case atStart => exact ⟨0, F, _, _, 0, _, _, by omega, rfl, HS.out, KN.out, pendMax_new n, Nat.le_refl _, by omega⟩
      case round =>
        obtain ⟨k, F2, st, once, no, safe, dirty, hgk2, rfl, hs, hkn, hpm, hno, hk60⟩ := hrel
        have HS2 := Lib.hid hs; have KN2 := Lib.hid hkn; have HPM := Lib.hid hpm; have HNO := Lib.hid hno; have HK60 := Lib.hid hk60; have HGK2 := Lib.hid hgk2
        clear hs hkn hpm hno hk60 hgk2 HS KN HGK hlt HS0
        by_cases hmore : k < l.length ∧ k < 60
        · obtain ⟨hm1, hm2⟩ := hmore
          have hm1' : (k : Int) < (l.length : Int) := by omega
          have hm2' : (k : Int) < 60 := by omega
          obtain ⟨a, ha⟩ : ∃ a, a = l[k] := ⟨_, rfl⟩
          have haok := HOK.out a (by rw [ha]; exact List.getElem_mem hm1)
          rcases HL.out with hnil | ⟨bl, off, rfl, hbl, hcs⟩
          · rw [hnil] at hm1; simp at hm1
          have hca := hcs k hm1
          rw [← ha] at hca
          have hcw : ∀ j u, (dactv a)[j]? = some u → wr.cell? ⟨bl, off + k * 5 + j, none⟩ = some u := fun j u hu => (HS2.out.low.1.cell (p := ⟨bl, off + k * 5 + j, none⟩) hbl).trans (hca j u hu)
          have c0 : wr.cell? ⟨bl, off + k * 5, none⟩ = some (.int .i64 a.kind) := hcw 0 _ rfl
          have c1 : wr.cell? ⟨bl, off + k * 5 + 1, none⟩ = some (.int .i64 a.at') := hcw 1 _ rfl
          have HAOK := Lib.hid haok; have HCA := Lib.hid hca; have HBL := Lib.hid hbl
          clear ha haok hcs hca hcw hm1 hm2 hbl
          obtain ⟨kind, hkind⟩ : ∃ x, x = a.kind := ⟨_, rfl⟩
          obtain ⟨at', hat⟩ : ∃ x, x = a.at' := ⟨_, rfl⟩
          rw [← hkind] at c0
          rw [← hat] at c1
          have HKD := Lib.hid hkind; have HAT := Lib.hid hat
          clear hkind hat
          have hn0 : ¬ (n : Int) = 0 := by omega
          go_upto_region 17 with fail
          obtain ⟨q, hqn, hq⟩ := place at' n HN16.out.1 HN16.out.2
          rw [hq]
          clear hq
          have ok2 := HS2.out.disk.ok
          have HQN := Lib.hid hqn; have OK2 := Lib.hid ok2
          have hq16 : (q : Int) < 16 := by have := HN16.out.2; omega
          clear ok2 hqn
          by_cases h4 : kind = 4
          · subst h4
            have KL := Lib.hid (flush_walk p F2 st wr HS2.out.disk (fun i => by have := HPM.out i; have := HK60.out; omega))
            go_wp2_with fail
            refine KL.out.mono ?_
            obtain ⟨kf1, kf2⟩ := KN2.out.flush OK2.out
            rw [kf1]
            rintro e w5 ⟨rfl, F3, hd3, hs3⟩
            have hs5 := HS2.out.stp hd3 hs3
            have hpm3 := pendMax_flush HPM.out
            obtain ⟨st3, hst3⟩ : ∃ st3, st3 = (flushD st).2 := ⟨_, rfl⟩
            rw [← hst3] at kf2 hs5 hpm3
            have HS5 := Lib.hid hs5; have KF3 := Lib.hid kf2; have HPM3 := Lib.hid hpm3
            clear kf1 kf2 hd3 hs3 hs5 hpm3 hst3 KL
            go_wp2_with fail
            obtain ⟨go, hgo⟩ : ∃ go, go = gk := ⟨_, rfl⟩
            have HGO := Lib.hid hgo
            clear hgo
            go_loopg [16] n (fun gj i wx => ∃ j : Nat, j + gj = n ∧ i = .int .i64 (j : Nat) ∧ SafeW w wx p F3 st3 ob sb db once no (fun i => if i < j then txt (lastS st3.S i) else safe i) (fun i => if i < j then false else dirty i))
            case atStart => exact ⟨0, by omega, rfl, by simpa using HS5.out⟩
            case round =>
              obtain ⟨j, hgj, rfl, hs⟩ := hrel
              have HS6 := Lib.hid hs; have HGJ := Lib.hid hgj
              clear hs hgj
              by_cases hjn : (j : Int) < (n : Int)
              · have hj16 : (j : Int) < 16 := by have := HN16.out.2; omega
                have hjn2 : j < n := by omega
                have KR := Lib.hid (read_walk p F3 st3 j wr HS6.out.disk)
                have hrd := KF3.out.read j hjn2
                have HRD := Lib.hid hrd
                clear hrd hjn2
                go_wp2_with fail
                refine KR.out.mono ?_
                rw [HRD.out]
                rintro e w6 ⟨rfl, hb6⟩
                have hs7 := HS6.out.below hb6
                obtain ⟨z, hzz⟩ : ∃ z, z = txt (lastS st3.S j) := ⟨_, rfl⟩
                have hc := hs7.cs j (by omega)
                have hf := free_at hs7.sf j
                have hs8 := hs7.setSafe j z
                have hc2 := hs8.cd j (by omega)
                have hf2 := free_at hs8.dr j
                have hs9 : SafeW w ((w6.setCell ⟨sb, j, none⟩ (.string z)).setCell ⟨db, j, none⟩ (.bool false)) p F3 st3 ob sb db once no (fun i => if i < j + 1 then txt (lastS st3.S i) else safe i) (fun i => if i < j + 1 then false else dirty i) := by
                  have := hs8.setDirty j false
                  rw [show (fun i => if i = j then z else if i < j then txt (lastS st3.S i) else safe i) = (fun i => if i < j + 1 then txt (lastS st3.S i) else safe i) from funext fun i => by
                    by_cases h1 : i = j
                    · rw [if_pos h1, if_pos (by omega), hzz, h1]
                    · rw [if_neg h1]
                      by_cases h2 : i < j
                      · rw [if_pos h2, if_pos (by omega)]
                      · rw [if_neg h2, if_neg (by omega)]] at this
                  rw [show (fun i => if i = j then false else if i < j then false else dirty i) = (fun i => if i < j + 1 then false else dirty i) from funext fun i => by
                    by_cases h1 : i = j
                    · rw [if_pos h1, if_pos (by omega)]
                    · rw [if_neg h1]
                      by_cases h2 : i < j
                      · rw [if_pos h2, if_pos (by omega)]
                      · rw [if_neg h2, if_neg (by omega)]] at this
                  exact this
                have HS9 := Lib.hid hs9
                rw [← hzz]
                clear hs7 hs8 hs9 hzz hb6 KR HRD
                go_wp2_with fail
                go_roundg (gk - 1)
                case measure => have := HGJ.out; omega
                case rel => exact ⟨j + 1, by have := HGJ.out; omega, by go_num, HS9.out⟩
              · have hjj : j = n := by have := HGJ.out; omega
                have hkn3 : Knows st3 n (fun i => if i < j then txt (lastS st3.S i) else safe i) (fun i => if i < j then false else dirty i) (wasOnce once) := by
                  have h := KF3.out
                  exact ⟨h.len, h.arm, h.up, fun k hk => by rw [if_pos (by omega)]; exact h.sf k hk, fun k hk => by rw [if_pos (by omega)]; exact h.dr k hk, h.on⟩
                have KN3 := Lib.hid hkn3
                clear hjj hkn3
                go_wp2_with fail
                go_roundg (go - 1)
                case measure => have := HGK2.out; have := HGO.out; omega
                case rel => exact ⟨k + 1, F3, st3, once, no, _, _, by have := HGK2.out; have := HGO.out; omega, by go_num, HS6.out, KN3.out, pendMax_le HPM3.out (by omega), by have := HNO.out; omega, by omega⟩
          · have hk4 : (kind == 4) = false := by rw [beq_eq_false_iff_ne]; exact h4
            clear h4
            by_cases hw3 : kind = 0 ∨ kind = 1 ∨ kind = 2
            · have c3 : wr.cell? ⟨bl, off + k * 5 + 3, none⟩ = some (.string a.s) := (HS2.out.low.1.cell (p := ⟨bl, off + k * 5 + 3, none⟩) HBL.out).trans (HCA.out 3 _ rfl)
              obtain ⟨s, hs⟩ : ∃ s, s = a.s := ⟨_, rfl⟩
              rw [← hs] at c3
              have HSS := Lib.hid hs
              clear hs
              by_cases hbig : (64 : Int) < (s.size : Int)
              · rcases hw3 with rfl | rfl | rfl
                · go_wp2_with fail
                  go_roundg (gk - 1)
                  case measure => have := HGK2.out; omega
                  case rel => exact ⟨k + 1, F2, st, once, no, safe, dirty, by have := HGK2.out; omega, by go_num, HS2.out, KN2.out, pendMax_le HPM.out (by omega), by have := HNO.out; omega, by omega⟩
                · go_wp2_with fail
                  go_roundg (gk - 1)
                  case measure => have := HGK2.out; omega
                  case rel => exact ⟨k + 1, F2, st, once, no, safe, dirty, by have := HGK2.out; omega, by go_num, HS2.out, KN2.out, pendMax_le HPM.out (by omega), by have := HNO.out; omega, by omega⟩
                · go_wp2_with fail
                  go_roundg (gk - 1)
                  case measure => have := HGK2.out; omega
                  case rel => exact ⟨k + 1, F2, st, once, no, safe, dirty, by have := HGK2.out; omega, by go_num, HS2.out, KN2.out, pendMax_le HPM.out (by omega), by have := HNO.out; omega, by omega⟩
              · have hs64 : s.size ≤ 64 := by omega
                have HS64 := Lib.hid hs64
                clear hs64
                have KW := Lib.hid (write_walk p F2 st q s wr HS2.out.disk (by have h1 := HPM.out q; have h2 := HK60.out; simp only [Int.toNat_natCast]; omega))
                rcases hw3 with rfl | rfl | rfl
                · go_wp2_with fail
                  refine KW.out.mono ?_
                  obtain ⟨kf1, kf2⟩ := KN2.out.write OK2.out q HQN.out s HS64.out
                  rw [show writeD st q s = (0, (writeD st q s).2) from Prod.ext kf1 rfl]
                  rintro e w5 ⟨rfl, F3, hd3, hs3⟩
                  have hs5 := HS2.out.stp hd3 hs3
                  have hpm3 := pendMax_write HPM.out OK2.out q s
                  obtain ⟨st3, hst3⟩ : ∃ st3, st3 = (writeD st q s).2 := ⟨_, rfl⟩
                  rw [← hst3] at kf2 hs5 hpm3
                  have HS5 := Lib.hid hs5; have KF3 := Lib.hid kf2; have HPM3 := Lib.hid hpm3
                  clear kf1 kf2 hd3 hs3 hs5 hpm3 hst3 KW c0 c1 c3
                  go_upto_region 32 with fail
                  have hbo : bl ≠ ob := by have h1 := HS5.out.high.2.2; have h2 := HBL.out; omega
                  have hblk5 : w5.cell? ⟨bl, off + k * 5 + 3, none⟩ = some (.string s) := by
                    rw [HSS.out]
                    exact (HS5.out.low.1.cell (p := ⟨bl, off + k * 5 + 3, none⟩) HBL.out).trans (HCA.out 3 _ rfl)
                  obtain ⟨C, hC⟩ : ∃ C : World → Prop, C = fun w9 => Touch (fun k => k = ob) w5 w9 := ⟨_, rfl⟩
                  have hCof : ∀ w9, Touch (fun k => k = ob) w5 w9 → C w9 := fun w9 h => by rw [hC]; exact h
                  have hc3 : ∀ w9, C w9 → w9.cell? ⟨bl, off + k * 5 + 3, none⟩ = some (.string s) := fun w9 h => by
                    rw [hC] at h
                    rw [World.cell?_of_block (h.block bl (block_lt_of_cell hblk5) hbo)]
                    exact hblk5
                  have HC3 := Lib.hid hc3; have HCO := Lib.hid hCof
                  have hC0 : C w5.drew := hCof _ (Touch.refl _ _).drew
                  have ht0 : Below w5.heap.size w5 w5.drew := (Below.refl _ _).drew
                  clear hc3 hCof hC hbo hblk5
                  refine wp_region_plan C (.read 0 <| .read 1 <| .read 2 <| .read 5 <| .read 6 <| .read 7 <| .read 8 <| .read 9 <| .fork 3 (.fork 4 (.step 10 <| .read 11 <| .step 12 .done) 10 (.step 4 <| .read 11 <| .step 12 .done)) 10 (.step 3 <| .step 4 <| .read 11 <| .step 12 .done)) (by kernel_rfl) (by kernel_rfl) hC0 ?_
                  generalize w5.drew = w6 at ht0 ⊢
                  clear hC0
                  simp only [Plan.fill, List.getElem?_cons_zero, List.getElem?_cons_succ]
                  repeat (refine plan_read (by rfl) ?_; apply Exists.intro; refine ⟨fun w9 hw9 => ?_, ?_⟩; (· have d1 := HC3.out w9 hw9; go_simp; rfl); simp only [Act.put, List.setIfInBounds_toArray, List.set_cons_succ, List.set_cons_zero])
                  obtain ⟨x8, hx8⟩ : ∃ x8, x8 = UInt8.ofNat q := ⟨_, rfl⟩
                  have hw8 : IntKind.u8.wrap (q : Int) = (x8.toNat : Int) := by rw [hx8]; exact byte_of q (by omega)
                  have HW8 := Lib.hid hw8; have HX8 := Lib.hid hx8
                  clear hw8 hx8
                  obtain ⟨y, hy⟩ : ∃ y, y = txt (fill s) := ⟨_, rfl⟩
                  have hys : y.size = 64 := by rw [hy, txt_size, fill_length s HS64.out]
                  have hxs : (txt [x8]).size = 1 := txt_size _
                  have hxy : ¬ 9223372036854775807 < (txt [x8]).size + y.size := by rw [hxs, hys]; omega
                  have HXY := Lib.hid hxy
                  clear hxy
                  clear hys hxs
                  have HY := Lib.hid hy
                  clear hy
                  refine plan_fork (by rfl) (by rfl) (fun K' hK => ?_) (fun K' hK => ?_)
                  · go_simp
                    rw [HW8.out]
                    have ht1 : Below w5.heap.size w5 (w6.alloc (.cells #[.int .u8 x8.toNat] 5)) := ht0.alloc ht0.size _
                    have g1 : (w6.alloc (.cells #[.int .u8 x8.toNat] 5)).heap[w6.heap.size]? = some (.cells #[.int .u8 x8.toNat] 5 (0, 0)) := heap_alloc_top _ _
                    have hE5 : w5.heap.size ≤ w6.heap.size := ht0.size
                    obtain ⟨E, hE⟩ : ∃ E, E = w6.heap.size := ⟨_, rfl⟩
                    rw [← hE] at g1 hE5 ⊢
                    clear hE
                    refine hK _ _ (HCO.out _ (Touch.ofBelow _ ht1)) ?_
                    clear hK K'
                    generalize w6.alloc (.cells #[.int .u8 x8.toNat] 5) = w7 at ht1 g1 ⊢
                    try simp only [Act.put, List.setIfInBounds_toArray, List.set_cons_succ, List.set_cons_zero]
                    replace ht0 := ht1; clear ht1
                    refine plan_fork (by rfl) (by rfl) (fun K' hK => ?_) (fun K' hK => ?_)
                    · refine wp_convert 40 9 _ rfl rfl (str_byte w7 E x8 (cell_at g1 rfl)) ?_
                      refine hK _ _ (HCO.out _ (Touch.ofBelow _ ht0)) ?_
                      clear hK K'
                      try simp only [Act.put, List.setIfInBounds_toArray, List.set_cons_succ, List.set_cons_zero]
                      refine plan_step (by rfl) (fun K' hK => ?_)
                      go_simp
                      go_at_call 8
                      refine (fill_walk s w7 HS64.out).mono ?_
                      rintro e w8 ⟨rfl, hb⟩
                      have ht2 : Below w5.heap.size w5 w8 := ht0.trans (hb.mono ht0.size)
                      rw [← HY.out]
                      refine hK _ _ (HCO.out _ (Touch.ofBelow _ ht2)) ?_
                      clear hK K'
                      replace ht0 := ht2; clear ht2
                      clear hb
                      try simp only [Act.put, List.setIfInBounds_toArray, List.set_cons_succ, List.set_cons_zero]
                      clear g1 hE5
                      generalize w8 = wT at ht0 ⊢
                      refine plan_read (by rfl) ?_
                      apply Exists.intro
                      refine ⟨fun w9 hw9 => ?_, ?_⟩
                      · go_simp; exact if_neg HXY.out
                      try simp only [Act.put, List.setIfInBounds_toArray, List.set_cons_succ, List.set_cons_zero]
                      refine plan_step (by rfl) (fun K' hK => ?_)
                      refine wp_mapUpdate_L _ _ _ rfl (HS5.out.below ht0).on str_key Try.underlying29 ?_ (Go.WideMaps.keyOf_string_mk Try.underlying9 ?_) rfl rfl rfl ?_
                      · have h1 := HNO.out; unfold maxLen; omega
                      · rw [ByteArray.size_append]; have h1 := HXY.out; unfold maxLen; omega
                      intro wF hmF hgF
                      have hsF := (HS5.out.below ht0).setOnce hmF hgF
                      refine hK _ _ (HCO.out _ ((Touch.ofBelow _ ht0).trans (Touch.ofGrown hgF (fun k e => (Option.some.inj e).symm)))) ?_
                      clear hK K'
                      try simp only [Act.put, List.setIfInBounds_toArray, List.set_cons_succ, List.set_cons_zero]
                      have hkl : (txt [x8] ++ y).data.toList = UInt8.ofNat q :: fill s := by rw [HY.out, HX8.out, txt_append]; simp [txt]
                      rw [hkl] at hsF
                      have hkF : Knows st3 n safe (fun j => if j = q then true else dirty j) (wasOnce (setF once (.string (UInt8.ofNat q :: fill s)) (.bool true))) := by
                        have h := KF3.out
                        refine ⟨h.len, h.arm, h.up, h.sf, h.dr, fun j hj f hf => ?_⟩
                        unfold wasOnce setF
                        rcases h.on j hj f hf with h1 | ⟨rfl, rfl⟩
                        · split
                          · rfl
                          · exact h1
                        · exact if_pos (WideAt.sameKey_self (show WideAt.IsKeyLit (.string _) from trivial))
                      have hnF : (if (once (.string (txt [x8] ++ y).data.toList)).isSome = true then no else no + 1) ≤ k + 1 := by have h1 := HNO.out; split <;> omega
                      rw [hkl] at hnF
                      have hf := free_at hsF.dr q
                      have hc := hsF.cd q (by omega)
                      have HSF := Lib.hid (hsF.setDirty q true); have HKF := Lib.hid hkF; have HNF := Lib.hid hnF
                      clear hmF hgF ht0 hkl hsF hkF hnF
                      refine plan_done (NoPanic.normal ?_)
                      go_wp2_with fail
                      go_roundg (gk - 1)
                      case measure => have := HGK2.out; omega
                      case rel => exact ⟨k + 1, F3, st3, _, _, safe, _, by have := HGK2.out; omega, by go_num, HSF.out, HKF.out, HPM3.out, HNF.out, by omega⟩
                    · go_simp
                      go_at_call 8
                      refine (fill_walk s w7 HS64.out).mono ?_
                      rintro e w8 ⟨rfl, hb⟩
                      have ht2 : Below w5.heap.size w5 w8 := ht0.trans (hb.mono ht0.size)
                      rw [← HY.out]
                      refine hK _ _ (HCO.out _ (Touch.ofBelow _ ht2)) ?_
                      clear hK K'
                      replace ht0 := ht2; clear ht2
                      have g1' := (hb.block E (lt_of_block g1)).trans g1
                      replace g1 := g1'; clear g1'
                      clear hb
                      try simp only [Act.put, List.setIfInBounds_toArray, List.set_cons_succ, List.set_cons_zero]
                      refine plan_step (by rfl) (fun K' hK => ?_)
                      refine wp_convert 40 9 _ rfl rfl (str_byte w8 E x8 (cell_at g1 rfl)) ?_
                      refine hK _ _ (HCO.out _ (Touch.ofBelow _ ht0)) ?_
                      clear hK K'
                      try simp only [Act.put, List.setIfInBounds_toArray, List.set_cons_succ, List.set_cons_zero]
                      clear g1 hE5
                      generalize w8 = wT at ht0 ⊢
                      refine plan_read (by rfl) ?_
                      apply Exists.intro
                      refine ⟨fun w9 hw9 => ?_, ?_⟩
                      · go_simp; exact if_neg HXY.out
                      try simp only [Act.put, List.setIfInBounds_toArray, List.set_cons_succ, List.set_cons_zero]
                      refine plan_step (by rfl) (fun K' hK => ?_)
                      refine wp_mapUpdate_L _ _ _ rfl (HS5.out.below ht0).on str_key Try.underlying29 ?_ (Go.WideMaps.keyOf_string_mk Try.underlying9 ?_) rfl rfl rfl ?_
                      · have h1 := HNO.out; unfold maxLen; omega
                      · rw [ByteArray.size_append]; have h1 := HXY.out; unfold maxLen; omega
                      intro wF hmF hgF
                      have hsF := (HS5.out.below ht0).setOnce hmF hgF
                      refine hK _ _ (HCO.out _ ((Touch.ofBelow _ ht0).trans (Touch.ofGrown hgF (fun k e => (Option.some.inj e).symm)))) ?_
                      clear hK K'
                      try simp only [Act.put, List.setIfInBounds_toArray, List.set_cons_succ, List.set_cons_zero]
                      have hkl : (txt [x8] ++ y).data.toList = UInt8.ofNat q :: fill s := by rw [HY.out, HX8.out, txt_append]; simp [txt]
                      rw [hkl] at hsF
                      have hkF : Knows st3 n safe (fun j => if j = q then true else dirty j) (wasOnce (setF once (.string (UInt8.ofNat q :: fill s)) (.bool true))) := by
                        have h := KF3.out
                        refine ⟨h.len, h.arm, h.up, h.sf, h.dr, fun j hj f hf => ?_⟩
                        unfold wasOnce setF
                        rcases h.on j hj f hf with h1 | ⟨rfl, rfl⟩
                        · split
                          · rfl
                          · exact h1
                        · exact if_pos (WideAt.sameKey_self (show WideAt.IsKeyLit (.string _) from trivial))
                      have hnF : (if (once (.string (txt [x8] ++ y).data.toList)).isSome = true then no else no + 1) ≤ k + 1 := by have h1 := HNO.out; split <;> omega
                      rw [hkl] at hnF
                      have hf := free_at hsF.dr q
                      have hc := hsF.cd q (by omega)
                      have HSF := Lib.hid (hsF.setDirty q true); have HKF := Lib.hid hkF; have HNF := Lib.hid hnF
                      clear hmF hgF ht0 hkl hsF hkF hnF
                      refine plan_done (NoPanic.normal ?_)
                      go_wp2_with fail
                      go_roundg (gk - 1)
                      case measure => have := HGK2.out; omega
                      case rel => exact ⟨k + 1, F3, st3, _, _, safe, _, by have := HGK2.out; omega, by go_num, HSF.out, HKF.out, HPM3.out, HNF.out, by omega⟩
                  · go_simp
                    go_at_call 8
                    refine (fill_walk s w6 HS64.out).mono ?_
                    rintro e w8 ⟨rfl, hb⟩
                    have ht2 : Below w5.heap.size w5 w8 := ht0.trans (hb.mono ht0.size)
                    rw [← HY.out]
                    refine hK _ _ (HCO.out _ (Touch.ofBelow _ ht2)) ?_
                    clear hK K'
                    replace ht0 := ht2; clear ht2
                    clear hb
                    try simp only [Act.put, List.setIfInBounds_toArray, List.set_cons_succ, List.set_cons_zero]
                    refine plan_step (by rfl) (fun K' hK => ?_)
                    go_simp
                    rw [HW8.out]
                    have ht1 : Below w5.heap.size w5 (w8.alloc (.cells #[.int .u8 x8.toNat] 5)) := ht0.alloc ht0.size _
                    have g1 : (w8.alloc (.cells #[.int .u8 x8.toNat] 5)).heap[w8.heap.size]? = some (.cells #[.int .u8 x8.toNat] 5 (0, 0)) := heap_alloc_top _ _
                    have hE5 : w5.heap.size ≤ w8.heap.size := ht0.size
                    obtain ⟨E, hE⟩ : ∃ E, E = w8.heap.size := ⟨_, rfl⟩
                    rw [← hE] at g1 hE5 ⊢
                    clear hE
                    refine hK _ _ (HCO.out _ (Touch.ofBelow _ ht1)) ?_
                    clear hK K'
                    generalize w8.alloc (.cells #[.int .u8 x8.toNat] 5) = w7 at ht1 g1 ⊢
                    try simp only [Act.put, List.setIfInBounds_toArray, List.set_cons_succ, List.set_cons_zero]
                    replace ht0 := ht1; clear ht1
                    refine plan_step (by rfl) (fun K' hK => ?_)
                    refine wp_convert 40 9 _ rfl rfl (str_byte w7 E x8 (cell_at g1 rfl)) ?_
                    refine hK _ _ (HCO.out _ (Touch.ofBelow _ ht0)) ?_
                    clear hK K'
                    try simp only [Act.put, List.setIfInBounds_toArray, List.set_cons_succ, List.set_cons_zero]
                    clear g1 hE5
                    generalize w7 = wT at ht0 ⊢
                    refine plan_read (by rfl) ?_
                    apply Exists.intro
                    refine ⟨fun w9 hw9 => ?_, ?_⟩
                    · go_simp; exact if_neg HXY.out
                    try simp only [Act.put, List.setIfInBounds_toArray, List.set_cons_succ, List.set_cons_zero]
                    refine plan_step (by rfl) (fun K' hK => ?_)
                    refine wp_mapUpdate_L _ _ _ rfl (HS5.out.below ht0).on str_key Try.underlying29 ?_ (Go.WideMaps.keyOf_string_mk Try.underlying9 ?_) rfl rfl rfl ?_
                    · have h1 := HNO.out; unfold maxLen; omega
                    · rw [ByteArray.size_append]; have h1 := HXY.out; unfold maxLen; omega
                    intro wF hmF hgF
                    have hsF := (HS5.out.below ht0).setOnce hmF hgF
                    refine hK _ _ (HCO.out _ ((Touch.ofBelow _ ht0).trans (Touch.ofGrown hgF (fun k e => (Option.some.inj e).symm)))) ?_
                    clear hK K'
                    try simp only [Act.put, List.setIfInBounds_toArray, List.set_cons_succ, List.set_cons_zero]
                    have hkl : (txt [x8] ++ y).data.toList = UInt8.ofNat q :: fill s := by rw [HY.out, HX8.out, txt_append]; simp [txt]
                    rw [hkl] at hsF
                    have hkF : Knows st3 n safe (fun j => if j = q then true else dirty j) (wasOnce (setF once (.string (UInt8.ofNat q :: fill s)) (.bool true))) := by
                      have h := KF3.out
                      refine ⟨h.len, h.arm, h.up, h.sf, h.dr, fun j hj f hf => ?_⟩
                      unfold wasOnce setF
                      rcases h.on j hj f hf with h1 | ⟨rfl, rfl⟩
                      · split
                        · rfl
                        · exact h1
                      · exact if_pos (WideAt.sameKey_self (show WideAt.IsKeyLit (.string _) from trivial))
                    have hnF : (if (once (.string (txt [x8] ++ y).data.toList)).isSome = true then no else no + 1) ≤ k + 1 := by have h1 := HNO.out; split <;> omega
                    rw [hkl] at hnF
                    have hf := free_at hsF.dr q
                    have hc := hsF.cd q (by omega)
                    have HSF := Lib.hid (hsF.setDirty q true); have HKF := Lib.hid hkF; have HNF := Lib.hid hnF
                    clear hmF hgF ht0 hkl hsF hkF hnF
                    refine plan_done (NoPanic.normal ?_)
                    go_wp2_with fail
                    go_roundg (gk - 1)
                    case measure => have := HGK2.out; omega
                    case rel => exact ⟨k + 1, F3, st3, _, _, safe, _, by have := HGK2.out; omega, by go_num, HSF.out, HKF.out, HPM3.out, HNF.out, by omega⟩
                · go_wp2_with fail
                  refine KW.out.mono ?_
                  obtain ⟨kf1, kf2⟩ := KN2.out.write OK2.out q HQN.out s HS64.out
                  rw [show writeD st q s = (0, (writeD st q s).2) from Prod.ext kf1 rfl]
                  rintro e w5 ⟨rfl, F3, hd3, hs3⟩
                  have hs5 := HS2.out.stp hd3 hs3
                  have hpm3 := pendMax_write HPM.out OK2.out q s
                  obtain ⟨st3, hst3⟩ : ∃ st3, st3 = (writeD st q s).2 := ⟨_, rfl⟩
                  rw [← hst3] at kf2 hs5 hpm3
                  have HS5 := Lib.hid hs5; have KF3 := Lib.hid kf2; have HPM3 := Lib.hid hpm3
                  clear kf1 kf2 hd3 hs3 hs5 hpm3 hst3 KW c0 c1 c3
                  go_upto_region 32 with fail
                  have hbo : bl ≠ ob := by have h1 := HS5.out.high.2.2; have h2 := HBL.out; omega
                  have hblk5 : w5.cell? ⟨bl, off + k * 5 + 3, none⟩ = some (.string s) := by
                    rw [HSS.out]
                    exact (HS5.out.low.1.cell (p := ⟨bl, off + k * 5 + 3, none⟩) HBL.out).trans (HCA.out 3 _ rfl)
                  obtain ⟨C, hC⟩ : ∃ C : World → Prop, C = fun w9 => Touch (fun k => k = ob) w5 w9 := ⟨_, rfl⟩
                  have hCof : ∀ w9, Touch (fun k => k = ob) w5 w9 → C w9 := fun w9 h => by rw [hC]; exact h
                  have hc3 : ∀ w9, C w9 → w9.cell? ⟨bl, off + k * 5 + 3, none⟩ = some (.string s) := fun w9 h => by
                    rw [hC] at h
                    rw [World.cell?_of_block (h.block bl (block_lt_of_cell hblk5) hbo)]
                    exact hblk5
                  have HC3 := Lib.hid hc3; have HCO := Lib.hid hCof
                  have hC0 : C w5.drew := hCof _ (Touch.refl _ _).drew
                  have ht0 : Below w5.heap.size w5 w5.drew := (Below.refl _ _).drew
                  clear hc3 hCof hC hbo hblk5
                  refine wp_region_plan C (.read 0 <| .read 1 <| .read 2 <| .read 5 <| .read 6 <| .read 7 <| .read 8 <| .read 9 <| .fork 3 (.fork 4 (.step 10 <| .read 11 <| .step 12 .done) 10 (.step 4 <| .read 11 <| .step 12 .done)) 10 (.step 3 <| .step 4 <| .read 11 <| .step 12 .done)) (by kernel_rfl) (by kernel_rfl) hC0 ?_
                  generalize w5.drew = w6 at ht0 ⊢
                  clear hC0
                  simp only [Plan.fill, List.getElem?_cons_zero, List.getElem?_cons_succ]
                  repeat (refine plan_read (by rfl) ?_; apply Exists.intro; refine ⟨fun w9 hw9 => ?_, ?_⟩; (· have d1 := HC3.out w9 hw9; go_simp; rfl); simp only [Act.put, List.setIfInBounds_toArray, List.set_cons_succ, List.set_cons_zero])
                  obtain ⟨x8, hx8⟩ : ∃ x8, x8 = UInt8.ofNat q := ⟨_, rfl⟩
                  have hw8 : IntKind.u8.wrap (q : Int) = (x8.toNat : Int) := by rw [hx8]; exact byte_of q (by omega)
                  have HW8 := Lib.hid hw8; have HX8 := Lib.hid hx8
                  clear hw8 hx8
                  obtain ⟨y, hy⟩ : ∃ y, y = txt (fill s) := ⟨_, rfl⟩
                  have hys : y.size = 64 := by rw [hy, txt_size, fill_length s HS64.out]
                  have hxs : (txt [x8]).size = 1 := txt_size _
                  have hxy : ¬ 9223372036854775807 < (txt [x8]).size + y.size := by rw [hxs, hys]; omega
                  have HXY := Lib.hid hxy
                  clear hxy
                  clear hys hxs
                  have HY := Lib.hid hy
                  clear hy
                  refine plan_fork (by rfl) (by rfl) (fun K' hK => ?_) (fun K' hK => ?_)
                  · go_simp
                    rw [HW8.out]
                    have ht1 : Below w5.heap.size w5 (w6.alloc (.cells #[.int .u8 x8.toNat] 5)) := ht0.alloc ht0.size _
                    have g1 : (w6.alloc (.cells #[.int .u8 x8.toNat] 5)).heap[w6.heap.size]? = some (.cells #[.int .u8 x8.toNat] 5 (0, 0)) := heap_alloc_top _ _
                    have hE5 : w5.heap.size ≤ w6.heap.size := ht0.size
                    obtain ⟨E, hE⟩ : ∃ E, E = w6.heap.size := ⟨_, rfl⟩
                    rw [← hE] at g1 hE5 ⊢
                    clear hE
                    refine hK _ _ (HCO.out _ (Touch.ofBelow _ ht1)) ?_
                    clear hK K'
                    generalize w6.alloc (.cells #[.int .u8 x8.toNat] 5) = w7 at ht1 g1 ⊢
                    try simp only [Act.put, List.setIfInBounds_toArray, List.set_cons_succ, List.set_cons_zero]
                    replace ht0 := ht1; clear ht1
                    refine plan_fork (by rfl) (by rfl) (fun K' hK => ?_) (fun K' hK => ?_)
                    · refine wp_convert 40 9 _ rfl rfl (str_byte w7 E x8 (cell_at g1 rfl)) ?_
                      refine hK _ _ (HCO.out _ (Touch.ofBelow _ ht0)) ?_
                      clear hK K'
                      try simp only [Act.put, List.setIfInBounds_toArray, List.set_cons_succ, List.set_cons_zero]
                      refine plan_step (by rfl) (fun K' hK => ?_)
                      go_simp
                      go_at_call 8
                      refine (fill_walk s w7 HS64.out).mono ?_
                      rintro e w8 ⟨rfl, hb⟩
                      have ht2 : Below w5.heap.size w5 w8 := ht0.trans (hb.mono ht0.size)
                      rw [← HY.out]
                      refine hK _ _ (HCO.out _ (Touch.ofBelow _ ht2)) ?_
                      clear hK K'
                      replace ht0 := ht2; clear ht2
                      clear hb
                      try simp only [Act.put, List.setIfInBounds_toArray, List.set_cons_succ, List.set_cons_zero]
                      clear g1 hE5
                      generalize w8 = wT at ht0 ⊢
                      refine plan_read (by rfl) ?_
                      apply Exists.intro
                      refine ⟨fun w9 hw9 => ?_, ?_⟩
                      · go_simp; exact if_neg HXY.out
                      try simp only [Act.put, List.setIfInBounds_toArray, List.set_cons_succ, List.set_cons_zero]
                      refine plan_step (by rfl) (fun K' hK => ?_)
                      refine wp_mapUpdate_L _ _ _ rfl (HS5.out.below ht0).on str_key Try.underlying29 ?_ (Go.WideMaps.keyOf_string_mk Try.underlying9 ?_) rfl rfl rfl ?_
                      · have h1 := HNO.out; unfold maxLen; omega
                      · rw [ByteArray.size_append]; have h1 := HXY.out; unfold maxLen; omega
                      intro wF hmF hgF
                      have hsF := (HS5.out.below ht0).setOnce hmF hgF
                      refine hK _ _ (HCO.out _ ((Touch.ofBelow _ ht0).trans (Touch.ofGrown hgF (fun k e => (Option.some.inj e).symm)))) ?_
                      clear hK K'
                      try simp only [Act.put, List.setIfInBounds_toArray, List.set_cons_succ, List.set_cons_zero]
                      have hkl : (txt [x8] ++ y).data.toList = UInt8.ofNat q :: fill s := by rw [HY.out, HX8.out, txt_append]; simp [txt]
                      rw [hkl] at hsF
                      have hkF : Knows st3 n safe (fun j => if j = q then true else dirty j) (wasOnce (setF once (.string (UInt8.ofNat q :: fill s)) (.bool true))) := by
                        have h := KF3.out
                        refine ⟨h.len, h.arm, h.up, h.sf, h.dr, fun j hj f hf => ?_⟩
                        unfold wasOnce setF
                        rcases h.on j hj f hf with h1 | ⟨rfl, rfl⟩
                        · split
                          · rfl
                          · exact h1
                        · exact if_pos (WideAt.sameKey_self (show WideAt.IsKeyLit (.string _) from trivial))
                      have hnF : (if (once (.string (txt [x8] ++ y).data.toList)).isSome = true then no else no + 1) ≤ k + 1 := by have h1 := HNO.out; split <;> omega
                      rw [hkl] at hnF
                      have hf := free_at hsF.dr q
                      have hc := hsF.cd q (by omega)
                      have HSF := Lib.hid (hsF.setDirty q true); have HKF := Lib.hid hkF; have HNF := Lib.hid hnF
                      clear hmF hgF ht0 hkl hsF hkF hnF
                      refine plan_done (NoPanic.normal ?_)
                      go_wp2_with fail
                      go_roundg (gk - 1)
                      case measure => have := HGK2.out; omega
                      case rel => exact ⟨k + 1, F3, st3, _, _, safe, _, by have := HGK2.out; omega, by go_num, HSF.out, HKF.out, HPM3.out, HNF.out, by omega⟩
                    · go_simp
                      go_at_call 8
                      refine (fill_walk s w7 HS64.out).mono ?_
                      rintro e w8 ⟨rfl, hb⟩
                      have ht2 : Below w5.heap.size w5 w8 := ht0.trans (hb.mono ht0.size)
                      rw [← HY.out]
                      refine hK _ _ (HCO.out _ (Touch.ofBelow _ ht2)) ?_
                      clear hK K'
                      replace ht0 := ht2; clear ht2
                      have g1' := (hb.block E (lt_of_block g1)).trans g1
                      replace g1 := g1'; clear g1'
                      clear hb
                      try simp only [Act.put, List.setIfInBounds_toArray, List.set_cons_succ, List.set_cons_zero]
                      refine plan_step (by rfl) (fun K' hK => ?_)
                      refine wp_convert 40 9 _ rfl rfl (str_byte w8 E x8 (cell_at g1 rfl)) ?_
                      refine hK _ _ (HCO.out _ (Touch.ofBelow _ ht0)) ?_
                      clear hK K'
                      try simp only [Act.put, List.setIfInBounds_toArray, List.set_cons_succ, List.set_cons_zero]
                      clear g1 hE5
                      generalize w8 = wT at ht0 ⊢
                      refine plan_read (by rfl) ?_
                      apply Exists.intro
                      refine ⟨fun w9 hw9 => ?_, ?_⟩
                      · go_simp; exact if_neg HXY.out
                      try simp only [Act.put, List.setIfInBounds_toArray, List.set_cons_succ, List.set_cons_zero]
                      refine plan_step (by rfl) (fun K' hK => ?_)
                      refine wp_mapUpdate_L _ _ _ rfl (HS5.out.below ht0).on str_key Try.underlying29 ?_ (Go.WideMaps.keyOf_string_mk Try.underlying9 ?_) rfl rfl rfl ?_
                      · have h1 := HNO.out; unfold maxLen; omega
                      · rw [ByteArray.size_append]; have h1 := HXY.out; unfold maxLen; omega
                      intro wF hmF hgF
                      have hsF := (HS5.out.below ht0).setOnce hmF hgF
                      refine hK _ _ (HCO.out _ ((Touch.ofBelow _ ht0).trans (Touch.ofGrown hgF (fun k e => (Option.some.inj e).symm)))) ?_
                      clear hK K'
                      try simp only [Act.put, List.setIfInBounds_toArray, List.set_cons_succ, List.set_cons_zero]
                      have hkl : (txt [x8] ++ y).data.toList = UInt8.ofNat q :: fill s := by rw [HY.out, HX8.out, txt_append]; simp [txt]
                      rw [hkl] at hsF
                      have hkF : Knows st3 n safe (fun j => if j = q then true else dirty j) (wasOnce (setF once (.string (UInt8.ofNat q :: fill s)) (.bool true))) := by
                        have h := KF3.out
                        refine ⟨h.len, h.arm, h.up, h.sf, h.dr, fun j hj f hf => ?_⟩
                        unfold wasOnce setF
                        rcases h.on j hj f hf with h1 | ⟨rfl, rfl⟩
                        · split
                          · rfl
                          · exact h1
                        · exact if_pos (WideAt.sameKey_self (show WideAt.IsKeyLit (.string _) from trivial))
                      have hnF : (if (once (.string (txt [x8] ++ y).data.toList)).isSome = true then no else no + 1) ≤ k + 1 := by have h1 := HNO.out; split <;> omega
                      rw [hkl] at hnF
                      have hf := free_at hsF.dr q
                      have hc := hsF.cd q (by omega)
                      have HSF := Lib.hid (hsF.setDirty q true); have HKF := Lib.hid hkF; have HNF := Lib.hid hnF
                      clear hmF hgF ht0 hkl hsF hkF hnF
                      refine plan_done (NoPanic.normal ?_)
                      go_wp2_with fail
                      go_roundg (gk - 1)
                      case measure => have := HGK2.out; omega
                      case rel => exact ⟨k + 1, F3, st3, _, _, safe, _, by have := HGK2.out; omega, by go_num, HSF.out, HKF.out, HPM3.out, HNF.out, by omega⟩
                  · go_simp
                    go_at_call 8
                    refine (fill_walk s w6 HS64.out).mono ?_
                    rintro e w8 ⟨rfl, hb⟩
                    have ht2 : Below w5.heap.size w5 w8 := ht0.trans (hb.mono ht0.size)
                    rw [← HY.out]
                    refine hK _ _ (HCO.out _ (Touch.ofBelow _ ht2)) ?_
                    clear hK K'
                    replace ht0 := ht2; clear ht2
                    clear hb
                    try simp only [Act.put, List.setIfInBounds_toArray, List.set_cons_succ, List.set_cons_zero]
                    refine plan_step (by rfl) (fun K' hK => ?_)
                    go_simp
                    rw [HW8.out]
                    have ht1 : Below w5.heap.size w5 (w8.alloc (.cells #[.int .u8 x8.toNat] 5)) := ht0.alloc ht0.size _
                    have g1 : (w8.alloc (.cells #[.int .u8 x8.toNat] 5)).heap[w8.heap.size]? = some (.cells #[.int .u8 x8.toNat] 5 (0, 0)) := heap_alloc_top _ _
                    have hE5 : w5.heap.size ≤ w8.heap.size := ht0.size
                    obtain ⟨E, hE⟩ : ∃ E, E = w8.heap.size := ⟨_, rfl⟩
                    rw [← hE] at g1 hE5 ⊢
                    clear hE
                    refine hK _ _ (HCO.out _ (Touch.ofBelow _ ht1)) ?_
                    clear hK K'
                    generalize w8.alloc (.cells #[.int .u8 x8.toNat] 5) = w7 at ht1 g1 ⊢
                    try simp only [Act.put, List.setIfInBounds_toArray, List.set_cons_succ, List.set_cons_zero]
                    replace ht0 := ht1; clear ht1
                    refine plan_step (by rfl) (fun K' hK => ?_)
                    refine wp_convert 40 9 _ rfl rfl (str_byte w7 E x8 (cell_at g1 rfl)) ?_
                    refine hK _ _ (HCO.out _ (Touch.ofBelow _ ht0)) ?_
                    clear hK K'
                    try simp only [Act.put, List.setIfInBounds_toArray, List.set_cons_succ, List.set_cons_zero]
                    clear g1 hE5
                    generalize w7 = wT at ht0 ⊢
                    refine plan_read (by rfl) ?_
                    apply Exists.intro
                    refine ⟨fun w9 hw9 => ?_, ?_⟩
                    · go_simp; exact if_neg HXY.out
                    try simp only [Act.put, List.setIfInBounds_toArray, List.set_cons_succ, List.set_cons_zero]
                    refine plan_step (by rfl) (fun K' hK => ?_)
                    refine wp_mapUpdate_L _ _ _ rfl (HS5.out.below ht0).on str_key Try.underlying29 ?_ (Go.WideMaps.keyOf_string_mk Try.underlying9 ?_) rfl rfl rfl ?_
                    · have h1 := HNO.out; unfold maxLen; omega
                    · rw [ByteArray.size_append]; have h1 := HXY.out; unfold maxLen; omega
                    intro wF hmF hgF
                    have hsF := (HS5.out.below ht0).setOnce hmF hgF
                    refine hK _ _ (HCO.out _ ((Touch.ofBelow _ ht0).trans (Touch.ofGrown hgF (fun k e => (Option.some.inj e).symm)))) ?_
                    clear hK K'
                    try simp only [Act.put, List.setIfInBounds_toArray, List.set_cons_succ, List.set_cons_zero]
                    have hkl : (txt [x8] ++ y).data.toList = UInt8.ofNat q :: fill s := by rw [HY.out, HX8.out, txt_append]; simp [txt]
                    rw [hkl] at hsF
                    have hkF : Knows st3 n safe (fun j => if j = q then true else dirty j) (wasOnce (setF once (.string (UInt8.ofNat q :: fill s)) (.bool true))) := by
                      have h := KF3.out
                      refine ⟨h.len, h.arm, h.up, h.sf, h.dr, fun j hj f hf => ?_⟩
                      unfold wasOnce setF
                      rcases h.on j hj f hf with h1 | ⟨rfl, rfl⟩
                      · split
                        · rfl
                        · exact h1
                      · exact if_pos (WideAt.sameKey_self (show WideAt.IsKeyLit (.string _) from trivial))
                    have hnF : (if (once (.string (txt [x8] ++ y).data.toList)).isSome = true then no else no + 1) ≤ k + 1 := by have h1 := HNO.out; split <;> omega
                    rw [hkl] at hnF
                    have hf := free_at hsF.dr q
                    have hc := hsF.cd q (by omega)
                    have HSF := Lib.hid (hsF.setDirty q true); have HKF := Lib.hid hkF; have HNF := Lib.hid hnF
                    clear hmF hgF ht0 hkl hsF hkF hnF
                    refine plan_done (NoPanic.normal ?_)
                    go_wp2_with fail
                    go_roundg (gk - 1)
                    case measure => have := HGK2.out; omega
                    case rel => exact ⟨k + 1, F3, st3, _, _, safe, _, by have := HGK2.out; omega, by go_num, HSF.out, HKF.out, HPM3.out, HNF.out, by omega⟩
                · go_wp2_with fail
                  refine KW.out.mono ?_
                  obtain ⟨kf1, kf2⟩ := KN2.out.write OK2.out q HQN.out s HS64.out
                  rw [show writeD st q s = (0, (writeD st q s).2) from Prod.ext kf1 rfl]
                  rintro e w5 ⟨rfl, F3, hd3, hs3⟩
                  have hs5 := HS2.out.stp hd3 hs3
                  have hpm3 := pendMax_write HPM.out OK2.out q s
                  obtain ⟨st3, hst3⟩ : ∃ st3, st3 = (writeD st q s).2 := ⟨_, rfl⟩
                  rw [← hst3] at kf2 hs5 hpm3
                  have HS5 := Lib.hid hs5; have KF3 := Lib.hid kf2; have HPM3 := Lib.hid hpm3
                  clear kf1 kf2 hd3 hs3 hs5 hpm3 hst3 KW c0 c1 c3
                  go_upto_region 32 with fail
                  have hbo : bl ≠ ob := by have h1 := HS5.out.high.2.2; have h2 := HBL.out; omega
                  have hblk5 : w5.cell? ⟨bl, off + k * 5 + 3, none⟩ = some (.string s) := by
                    rw [HSS.out]
                    exact (HS5.out.low.1.cell (p := ⟨bl, off + k * 5 + 3, none⟩) HBL.out).trans (HCA.out 3 _ rfl)
                  obtain ⟨C, hC⟩ : ∃ C : World → Prop, C = fun w9 => Touch (fun k => k = ob) w5 w9 := ⟨_, rfl⟩
                  have hCof : ∀ w9, Touch (fun k => k = ob) w5 w9 → C w9 := fun w9 h => by rw [hC]; exact h
                  have hc3 : ∀ w9, C w9 → w9.cell? ⟨bl, off + k * 5 + 3, none⟩ = some (.string s) := fun w9 h => by
                    rw [hC] at h
                    rw [World.cell?_of_block (h.block bl (block_lt_of_cell hblk5) hbo)]
                    exact hblk5
                  have HC3 := Lib.hid hc3; have HCO := Lib.hid hCof
                  have hC0 : C w5.drew := hCof _ (Touch.refl _ _).drew
                  have ht0 : Below w5.heap.size w5 w5.drew := (Below.refl _ _).drew
                  clear hc3 hCof hC hbo hblk5
                  refine wp_region_plan C (.read 0 <| .read 1 <| .read 2 <| .read 5 <| .read 6 <| .read 7 <| .read 8 <| .read 9 <| .fork 3 (.fork 4 (.step 10 <| .read 11 <| .step 12 .done) 10 (.step 4 <| .read 11 <| .step 12 .done)) 10 (.step 3 <| .step 4 <| .read 11 <| .step 12 .done)) (by kernel_rfl) (by kernel_rfl) hC0 ?_
                  generalize w5.drew = w6 at ht0 ⊢
                  clear hC0
                  simp only [Plan.fill, List.getElem?_cons_zero, List.getElem?_cons_succ]
                  repeat (refine plan_read (by rfl) ?_; apply Exists.intro; refine ⟨fun w9 hw9 => ?_, ?_⟩; (· have d1 := HC3.out w9 hw9; go_simp; rfl); simp only [Act.put, List.setIfInBounds_toArray, List.set_cons_succ, List.set_cons_zero])
                  obtain ⟨x8, hx8⟩ : ∃ x8, x8 = UInt8.ofNat q := ⟨_, rfl⟩
                  have hw8 : IntKind.u8.wrap (q : Int) = (x8.toNat : Int) := by rw [hx8]; exact byte_of q (by omega)
                  have HW8 := Lib.hid hw8; have HX8 := Lib.hid hx8
                  clear hw8 hx8
                  obtain ⟨y, hy⟩ : ∃ y, y = txt (fill s) := ⟨_, rfl⟩
                  have hys : y.size = 64 := by rw [hy, txt_size, fill_length s HS64.out]
                  have hxs : (txt [x8]).size = 1 := txt_size _
                  have hxy : ¬ 9223372036854775807 < (txt [x8]).size + y.size := by rw [hxs, hys]; omega
                  have HXY := Lib.hid hxy
                  clear hxy
                  clear hys hxs
                  have HY := Lib.hid hy
                  clear hy
                  refine plan_fork (by rfl) (by rfl) (fun K' hK => ?_) (fun K' hK => ?_)
                  · go_simp
                    rw [HW8.out]
                    have ht1 : Below w5.heap.size w5 (w6.alloc (.cells #[.int .u8 x8.toNat] 5)) := ht0.alloc ht0.size _
                    have g1 : (w6.alloc (.cells #[.int .u8 x8.toNat] 5)).heap[w6.heap.size]? = some (.cells #[.int .u8 x8.toNat] 5 (0, 0)) := heap_alloc_top _ _
                    have hE5 : w5.heap.size ≤ w6.heap.size := ht0.size
                    obtain ⟨E, hE⟩ : ∃ E, E = w6.heap.size := ⟨_, rfl⟩
                    rw [← hE] at g1 hE5 ⊢
                    clear hE
                    refine hK _ _ (HCO.out _ (Touch.ofBelow _ ht1)) ?_
                    clear hK K'
                    generalize w6.alloc (.cells #[.int .u8 x8.toNat] 5) = w7 at ht1 g1 ⊢
                    try simp only [Act.put, List.setIfInBounds_toArray, List.set_cons_succ, List.set_cons_zero]
                    replace ht0 := ht1; clear ht1
                    refine plan_fork (by rfl) (by rfl) (fun K' hK => ?_) (fun K' hK => ?_)
                    · refine wp_convert 40 9 _ rfl rfl (str_byte w7 E x8 (cell_at g1 rfl)) ?_
                      refine hK _ _ (HCO.out _ (Touch.ofBelow _ ht0)) ?_
                      clear hK K'
                      try simp only [Act.put, List.setIfInBounds_toArray, List.set_cons_succ, List.set_cons_zero]
                      refine plan_step (by rfl) (fun K' hK => ?_)
                      go_simp
                      go_at_call 8
                      refine (fill_walk s w7 HS64.out).mono ?_
                      rintro e w8 ⟨rfl, hb⟩
                      have ht2 : Below w5.heap.size w5 w8 := ht0.trans (hb.mono ht0.size)
                      rw [← HY.out]
                      refine hK _ _ (HCO.out _ (Touch.ofBelow _ ht2)) ?_
                      clear hK K'
                      replace ht0 := ht2; clear ht2
                      clear hb
                      try simp only [Act.put, List.setIfInBounds_toArray, List.set_cons_succ, List.set_cons_zero]
                      clear g1 hE5
                      generalize w8 = wT at ht0 ⊢
                      refine plan_read (by rfl) ?_
                      apply Exists.intro
                      refine ⟨fun w9 hw9 => ?_, ?_⟩
                      · go_simp; exact if_neg HXY.out
                      try simp only [Act.put, List.setIfInBounds_toArray, List.set_cons_succ, List.set_cons_zero]
                      refine plan_step (by rfl) (fun K' hK => ?_)
                      refine wp_mapUpdate_L _ _ _ rfl (HS5.out.below ht0).on str_key Try.underlying29 ?_ (Go.WideMaps.keyOf_string_mk Try.underlying9 ?_) rfl rfl rfl ?_
                      · have h1 := HNO.out; unfold maxLen; omega
                      · rw [ByteArray.size_append]; have h1 := HXY.out; unfold maxLen; omega
                      intro wF hmF hgF
                      have hsF := (HS5.out.below ht0).setOnce hmF hgF
                      refine hK _ _ (HCO.out _ ((Touch.ofBelow _ ht0).trans (Touch.ofGrown hgF (fun k e => (Option.some.inj e).symm)))) ?_
                      clear hK K'
                      try simp only [Act.put, List.setIfInBounds_toArray, List.set_cons_succ, List.set_cons_zero]
                      have hkl : (txt [x8] ++ y).data.toList = UInt8.ofNat q :: fill s := by rw [HY.out, HX8.out, txt_append]; simp [txt]
                      rw [hkl] at hsF
                      have hkF : Knows st3 n safe (fun j => if j = q then true else dirty j) (wasOnce (setF once (.string (UInt8.ofNat q :: fill s)) (.bool true))) := by
                        have h := KF3.out
                        refine ⟨h.len, h.arm, h.up, h.sf, h.dr, fun j hj f hf => ?_⟩
                        unfold wasOnce setF
                        rcases h.on j hj f hf with h1 | ⟨rfl, rfl⟩
                        · split
                          · rfl
                          · exact h1
                        · exact if_pos (WideAt.sameKey_self (show WideAt.IsKeyLit (.string _) from trivial))
                      have hnF : (if (once (.string (txt [x8] ++ y).data.toList)).isSome = true then no else no + 1) ≤ k + 1 := by have h1 := HNO.out; split <;> omega
                      rw [hkl] at hnF
                      have hf := free_at hsF.dr q
                      have hc := hsF.cd q (by omega)
                      have HSF := Lib.hid (hsF.setDirty q true); have HKF := Lib.hid hkF; have HNF := Lib.hid hnF
                      clear hmF hgF ht0 hkl hsF hkF hnF
                      refine plan_done (NoPanic.normal ?_)
                      go_wp2_with fail
                      go_roundg (gk - 1)
                      case measure => have := HGK2.out; omega
                      case rel => exact ⟨k + 1, F3, st3, _, _, safe, _, by have := HGK2.out; omega, by go_num, HSF.out, HKF.out, HPM3.out, HNF.out, by omega⟩
                    · go_simp
                      go_at_call 8
                      refine (fill_walk s w7 HS64.out).mono ?_
                      rintro e w8 ⟨rfl, hb⟩
                      have ht2 : Below w5.heap.size w5 w8 := ht0.trans (hb.mono ht0.size)
                      rw [← HY.out]
                      refine hK _ _ (HCO.out _ (Touch.ofBelow _ ht2)) ?_
                      clear hK K'
                      replace ht0 := ht2; clear ht2
                      have g1' := (hb.block E (lt_of_block g1)).trans g1
                      replace g1 := g1'; clear g1'
                      clear hb
                      try simp only [Act.put, List.setIfInBounds_toArray, List.set_cons_succ, List.set_cons_zero]
                      refine plan_step (by rfl) (fun K' hK => ?_)
                      refine wp_convert 40 9 _ rfl rfl (str_byte w8 E x8 (cell_at g1 rfl)) ?_
                      refine hK _ _ (HCO.out _ (Touch.ofBelow _ ht0)) ?_
                      clear hK K'
                      try simp only [Act.put, List.setIfInBounds_toArray, List.set_cons_succ, List.set_cons_zero]
                      clear g1 hE5
                      generalize w8 = wT at ht0 ⊢
                      refine plan_read (by rfl) ?_
                      apply Exists.intro
                      refine ⟨fun w9 hw9 => ?_, ?_⟩
                      · go_simp; exact if_neg HXY.out
                      try simp only [Act.put, List.setIfInBounds_toArray, List.set_cons_succ, List.set_cons_zero]
                      refine plan_step (by rfl) (fun K' hK => ?_)
                      refine wp_mapUpdate_L _ _ _ rfl (HS5.out.below ht0).on str_key Try.underlying29 ?_ (Go.WideMaps.keyOf_string_mk Try.underlying9 ?_) rfl rfl rfl ?_
                      · have h1 := HNO.out; unfold maxLen; omega
                      · rw [ByteArray.size_append]; have h1 := HXY.out; unfold maxLen; omega
                      intro wF hmF hgF
                      have hsF := (HS5.out.below ht0).setOnce hmF hgF
                      refine hK _ _ (HCO.out _ ((Touch.ofBelow _ ht0).trans (Touch.ofGrown hgF (fun k e => (Option.some.inj e).symm)))) ?_
                      clear hK K'
                      try simp only [Act.put, List.setIfInBounds_toArray, List.set_cons_succ, List.set_cons_zero]
                      have hkl : (txt [x8] ++ y).data.toList = UInt8.ofNat q :: fill s := by rw [HY.out, HX8.out, txt_append]; simp [txt]
                      rw [hkl] at hsF
                      have hkF : Knows st3 n safe (fun j => if j = q then true else dirty j) (wasOnce (setF once (.string (UInt8.ofNat q :: fill s)) (.bool true))) := by
                        have h := KF3.out
                        refine ⟨h.len, h.arm, h.up, h.sf, h.dr, fun j hj f hf => ?_⟩
                        unfold wasOnce setF
                        rcases h.on j hj f hf with h1 | ⟨rfl, rfl⟩
                        · split
                          · rfl
                          · exact h1
                        · exact if_pos (WideAt.sameKey_self (show WideAt.IsKeyLit (.string _) from trivial))
                      have hnF : (if (once (.string (txt [x8] ++ y).data.toList)).isSome = true then no else no + 1) ≤ k + 1 := by have h1 := HNO.out; split <;> omega
                      rw [hkl] at hnF
                      have hf := free_at hsF.dr q
                      have hc := hsF.cd q (by omega)
                      have HSF := Lib.hid (hsF.setDirty q true); have HKF := Lib.hid hkF; have HNF := Lib.hid hnF
                      clear hmF hgF ht0 hkl hsF hkF hnF
                      refine plan_done (NoPanic.normal ?_)
                      go_wp2_with fail
                      go_roundg (gk - 1)
                      case measure => have := HGK2.out; omega
                      case rel => exact ⟨k + 1, F3, st3, _, _, safe, _, by have := HGK2.out; omega, by go_num, HSF.out, HKF.out, HPM3.out, HNF.out, by omega⟩
                  · go_simp
                    go_at_call 8
                    refine (fill_walk s w6 HS64.out).mono ?_
                    rintro e w8 ⟨rfl, hb⟩
                    have ht2 : Below w5.heap.size w5 w8 := ht0.trans (hb.mono ht0.size)
                    rw [← HY.out]
                    refine hK _ _ (HCO.out _ (Touch.ofBelow _ ht2)) ?_
                    clear hK K'
                    replace ht0 := ht2; clear ht2
                    clear hb
                    try simp only [Act.put, List.setIfInBounds_toArray, List.set_cons_succ, List.set_cons_zero]
                    refine plan_step (by rfl) (fun K' hK => ?_)
                    go_simp
                    rw [HW8.out]
                    have ht1 : Below w5.heap.size w5 (w8.alloc (.cells #[.int .u8 x8.toNat] 5)) := ht0.alloc ht0.size _
                    have g1 : (w8.alloc (.cells #[.int .u8 x8.toNat] 5)).heap[w8.heap.size]? = some (.cells #[.int .u8 x8.toNat] 5 (0, 0)) := heap_alloc_top _ _
                    have hE5 : w5.heap.size ≤ w8.heap.size := ht0.size
                    obtain ⟨E, hE⟩ : ∃ E, E = w8.heap.size := ⟨_, rfl⟩
                    rw [← hE] at g1 hE5 ⊢
                    clear hE
                    refine hK _ _ (HCO.out _ (Touch.ofBelow _ ht1)) ?_
                    clear hK K'
                    generalize w8.alloc (.cells #[.int .u8 x8.toNat] 5) = w7 at ht1 g1 ⊢
                    try simp only [Act.put, List.setIfInBounds_toArray, List.set_cons_succ, List.set_cons_zero]
                    replace ht0 := ht1; clear ht1
                    refine plan_step (by rfl) (fun K' hK => ?_)
                    refine wp_convert 40 9 _ rfl rfl (str_byte w7 E x8 (cell_at g1 rfl)) ?_
                    refine hK _ _ (HCO.out _ (Touch.ofBelow _ ht0)) ?_
                    clear hK K'
                    try simp only [Act.put, List.setIfInBounds_toArray, List.set_cons_succ, List.set_cons_zero]
                    clear g1 hE5
                    generalize w7 = wT at ht0 ⊢
                    refine plan_read (by rfl) ?_
                    apply Exists.intro
                    refine ⟨fun w9 hw9 => ?_, ?_⟩
                    · go_simp; exact if_neg HXY.out
                    try simp only [Act.put, List.setIfInBounds_toArray, List.set_cons_succ, List.set_cons_zero]
                    refine plan_step (by rfl) (fun K' hK => ?_)
                    refine wp_mapUpdate_L _ _ _ rfl (HS5.out.below ht0).on str_key Try.underlying29 ?_ (Go.WideMaps.keyOf_string_mk Try.underlying9 ?_) rfl rfl rfl ?_
                    · have h1 := HNO.out; unfold maxLen; omega
                    · rw [ByteArray.size_append]; have h1 := HXY.out; unfold maxLen; omega
                    intro wF hmF hgF
                    have hsF := (HS5.out.below ht0).setOnce hmF hgF
                    refine hK _ _ (HCO.out _ ((Touch.ofBelow _ ht0).trans (Touch.ofGrown hgF (fun k e => (Option.some.inj e).symm)))) ?_
                    clear hK K'
                    try simp only [Act.put, List.setIfInBounds_toArray, List.set_cons_succ, List.set_cons_zero]
                    have hkl : (txt [x8] ++ y).data.toList = UInt8.ofNat q :: fill s := by rw [HY.out, HX8.out, txt_append]; simp [txt]
                    rw [hkl] at hsF
                    have hkF : Knows st3 n safe (fun j => if j = q then true else dirty j) (wasOnce (setF once (.string (UInt8.ofNat q :: fill s)) (.bool true))) := by
                      have h := KF3.out
                      refine ⟨h.len, h.arm, h.up, h.sf, h.dr, fun j hj f hf => ?_⟩
                      unfold wasOnce setF
                      rcases h.on j hj f hf with h1 | ⟨rfl, rfl⟩
                      · split
                        · rfl
                        · exact h1
                      · exact if_pos (WideAt.sameKey_self (show WideAt.IsKeyLit (.string _) from trivial))
                    have hnF : (if (once (.string (txt [x8] ++ y).data.toList)).isSome = true then no else no + 1) ≤ k + 1 := by have h1 := HNO.out; split <;> omega
                    rw [hkl] at hnF
                    have hf := free_at hsF.dr q
                    have hc := hsF.cd q (by omega)
                    have HSF := Lib.hid (hsF.setDirty q true); have HKF := Lib.hid hkF; have HNF := Lib.hid hnF
                    clear hmF hgF ht0 hkl hsF hkF hnF
                    refine plan_done (NoPanic.normal ?_)
                    go_wp2_with fail
                    go_roundg (gk - 1)
                    case measure => have := HGK2.out; omega
                    case rel => exact ⟨k + 1, F3, st3, _, _, safe, _, by have := HGK2.out; omega, by go_num, HSF.out, HKF.out, HPM3.out, HNF.out, by omega⟩
            · have hk0 : (kind == 0) = false := by rw [beq_eq_false_iff_ne]; exact fun e => hw3 (.inl e)
              have hk1 : (kind == 1) = false := by rw [beq_eq_false_iff_ne]; exact fun e => hw3 (.inr (.inl e))
              have hk2 : (kind == 2) = false := by rw [beq_eq_false_iff_ne]; exact fun e => hw3 (.inr (.inr e))
              clear hw3
              go_wp2_with fail
              go_roundg (gk - 1)
              case measure => have := HGK2.out; omega
              case rel => exact ⟨k + 1, F2, st, once, no, safe, dirty, by have := HGK2.out; omega, by go_num, HS2.out, KN2.out, pendMax_le HPM.out (by omega), by have := HNO.out; omega, by omega⟩
        · have hnot : ¬ ((k : Int) < (l.length : Int)) ∨ ((k : Int) < (l.length : Int) ∧ ¬ (k : Int) < 60) := by omega
          have KC := Lib.hid (crash_walk p F2 st keep adk capk wr HS2.out.disk (fun i => by have h1 := HPM.out i; have h2 := HK60.out; omega) (intsAt_touch HKI.out (Touch.ofBelow (fun _ => False) HS2.out.low.1) (fun _ _ _ hf => hf))
            (by
              rcases HKI.out with h2 | ⟨b', off', h2, h3, _⟩
              · exact .inl h2
              · refine .inr (fun b off e hf => ?_)
                have h1 := HS2.out.low.2 b hf
                rw [h2] at e; cases e; omega) HKL.out HKR.out)
          clear hmore
          rcases hnot with hlt | ⟨hlt, hlt2⟩
          · go_wp2_with fail
            refine KC.out.mono ?_
            rintro e w5 ⟨rfl, F4, hd4, hs4⟩
            have HS5 := Lib.hid (HS2.out.stp hd4 hs4)
            have hcr := fun j (hj : j < n) => KN2.out.crash HS2.out.disk.ok keep j hj
            obtain ⟨st4, hst4⟩ : ∃ st4, st4 = crashD st keep := ⟨_, rfl⟩
            rw [← hst4] at HS5 hcr
            have HCR := Lib.hid hcr
            clear hd4 hs4 hcr hst4 KC
            go_wp2_with fail
            go_loopg [19] n (fun gj i wx => ∃ j : Nat, j + gj = n ∧ i = .int .i64 (j : Nat) ∧ SafeW w wx p F4 st4 ob sb db once no safe dirty)
            case atStart => exact ⟨0, by omega, rfl, HS5.out⟩
            case round =>
              obtain ⟨j, hgj, rfl, hs⟩ := hrel
              have HS6 := Lib.hid hs; have HGJ := Lib.hid hgj
              clear hs hgj
              by_cases hjn : (j : Int) < (n : Int)
              · have hj16 : (j : Int) < 16 := by have := HN16.out.2; omega
                obtain ⟨s, hrd, hs64, hs1, hs2⟩ := HCR.out j (by omega)
                have KR := Lib.hid (read_walk p F4 st4 j wr HS6.out.disk)
                rw [hrd] at KR
                obtain ⟨y, hy⟩ : ∃ y, y = txt s := ⟨_, rfl⟩
                have hys : y.size = 64 := by rw [hy, txt_size, hs64]
                rw [← hy] at KR hs1 hs2
                have HY := Lib.hid hy; have HS1 := Lib.hid hs1; have HS2' := Lib.hid hs2; have HYS := Lib.hid hys
                clear hy hrd hs64 hs1 hs2 hys
                go_wp2_with fail
                refine KR.out.mono ?_
                rintro e w6 ⟨rfl, hb6⟩
                have hs7 := HS6.out.below hb6
                have c1 := hs7.cs j (by omega)
                have c2 := hs7.cd j (by omega)
                have HS7 := Lib.hid hs7
                obtain ⟨z, hz⟩ : ∃ z, z = safe j := ⟨_, rfl⟩
                obtain ⟨b, hbb⟩ : ∃ b, b = dirty j := ⟨_, rfl⟩
                rw [← hz] at c1
                rw [← hbb] at c2
                have HZ := Lib.hid hz; have HBB := Lib.hid hbb
                clear hs7 hz hbb hb6 KR
                by_cases hyz : y = z
                · obtain rfl := hyz
                  cases b with
                  | true =>
                    go_wp2_with fail
                    go_roundg (gk - 1)
                    case measure => have := HGJ.out; omega
                    case rel => exact ⟨j + 1, by have := HGJ.out; omega, by go_num, HS7.out⟩
                  | false =>
                    go_wp2_with fail
                    go_roundg (gk - 1)
                    case measure => have := HGJ.out; omega
                    case rel => exact ⟨j + 1, by have := HGJ.out; omega, by go_num, HS7.out⟩
                · have hb1 : b = true := by
                    cases hb : b with
                    | true => rfl
                    | false => exact absurd (by rw [HZ.out]; exact HS1.out (by rw [← HBB.out, hb])) hyz
                  subst hb1
                  have hon : once (.string (UInt8.ofNat j :: s)) = some (.bool true) := HS2'.out.elim (fun h => absurd (by rw [HZ.out]; exact h) hyz) (fun h => h)
                  obtain ⟨x8, hx8⟩ : ∃ x8, x8 = UInt8.ofNat j := ⟨_, rfl⟩
                  have hw8 : IntKind.u8.wrap (j : Int) = (x8.toNat : Int) := by rw [hx8]; exact byte_of j (by omega)
                  have hkl : (txt [x8] ++ y).data.toList = UInt8.ofNat j :: s := by rw [HY.out, hx8, txt_append]; simp [txt]
                  rw [← hkl] at hon
                  have hxs : (txt [x8]).size = 1 := txt_size _
                  have hxy : (txt [x8]).size + y.size ≤ 9223372036854775807 := by rw [hxs, HYS.out]; omega
                  have hkm : (txt [x8] ++ y).size ≤ maxLen := by rw [ByteArray.size_append, hxs, HYS.out]; unfold maxLen; omega
                  have HON := Lib.hid hon; have HKM := Lib.hid hkm
                  have hsW : SafeW w (w6.alloc (.cells #[.int .u8 x8.toNat] 5)) p F4 st4 ob sb db once no safe dirty := HS7.out.below ((Below.refl _ _).alloc (Nat.le_refl _) _)
                  have hstr := str_byte (w6.alloc (.cells #[.int .u8 x8.toNat] 5)) w6.heap.size x8 (cell_at (heap_alloc_top _ _) rfl)
                  have hlk := hsW.on.look str_key (t := 29) Try.underlying29 (zbool _) (Go.WideMaps.keyOf_string_mk Try.underlying9 HKM.out)
                  rw [HON.out] at hlk
                  replace hlk : (Instr.lookup 29 (.map (some ob)) (.string (txt [x8] ++ y)) false).run Try.prog (w6.alloc (.cells #[.int .u8 x8.toNat] 5)) = .ok (.bool true) (w6.alloc (.cells #[.int .u8 x8.toNat] 5)) := hlk
                  have HSW := Lib.hid hsW
                  clear hon hx8 hkl hxs hkm hsW
                  have hyl : ¬ y.toList = z.toList := fun h => hyz (by rw [ByteArray.toList_eq, ByteArray.toList_eq] at h; exact ByteArray.ext (Array.toList_inj.1 h))
                  clear hyz
                  go_wp2_with fail
                  go_roundg (gk - 1)
                  case measure => have := HGJ.out; omega
                  case rel => exact ⟨j + 1, by have := HGJ.out; omega, by go_num, HSW.out⟩
              · have hjj : j = n := by have := HGJ.out; omega
                clear hjj
                go_wp2_with fail
                go_ret
                exact ⟨rfl, HS6.out.low.1⟩
          · go_wp2_with fail
            refine KC.out.mono ?_
            rintro e w5 ⟨rfl, F4, hd4, hs4⟩
            have HS5 := Lib.hid (HS2.out.stp hd4 hs4)
            have hcr := fun j (hj : j < n) => KN2.out.crash HS2.out.disk.ok keep j hj
            obtain ⟨st4, hst4⟩ : ∃ st4, st4 = crashD st keep := ⟨_, rfl⟩
            rw [← hst4] at HS5 hcr
            have HCR := Lib.hid hcr
            clear hd4 hs4 hcr hst4 KC
            go_wp2_with fail
            go_loopg [19] n (fun gj i wx => ∃ j : Nat, j + gj = n ∧ i = .int .i64 (j : Nat) ∧ SafeW w wx p F4 st4 ob sb db once no safe dirty)
            case atStart => exact ⟨0, by omega, rfl, HS5.out⟩
            case round =>
              obtain ⟨j, hgj, rfl, hs⟩ := hrel
              have HS6 := Lib.hid hs; have HGJ := Lib.hid hgj
              clear hs hgj
              by_cases hjn : (j : Int) < (n : Int)
              · have hj16 : (j : Int) < 16 := by have := HN16.out.2; omega
                obtain ⟨s, hrd, hs64, hs1, hs2⟩ := HCR.out j (by omega)
                have KR := Lib.hid (read_walk p F4 st4 j wr HS6.out.disk)
                rw [hrd] at KR
                obtain ⟨y, hy⟩ : ∃ y, y = txt s := ⟨_, rfl⟩
                have hys : y.size = 64 := by rw [hy, txt_size, hs64]
                rw [← hy] at KR hs1 hs2
                have HY := Lib.hid hy; have HS1 := Lib.hid hs1; have HS2' := Lib.hid hs2; have HYS := Lib.hid hys
                clear hy hrd hs64 hs1 hs2 hys
                go_wp2_with fail
                refine KR.out.mono ?_
                rintro e w6 ⟨rfl, hb6⟩
                have hs7 := HS6.out.below hb6
                have c1 := hs7.cs j (by omega)
                have c2 := hs7.cd j (by omega)
                have HS7 := Lib.hid hs7
                obtain ⟨z, hz⟩ : ∃ z, z = safe j := ⟨_, rfl⟩
                obtain ⟨b, hbb⟩ : ∃ b, b = dirty j := ⟨_, rfl⟩
                rw [← hz] at c1
                rw [← hbb] at c2
                have HZ := Lib.hid hz; have HBB := Lib.hid hbb
                clear hs7 hz hbb hb6 KR
                by_cases hyz : y = z
                · obtain rfl := hyz
                  cases b with
                  | true =>
                    go_wp2_with fail
                    go_roundg (gk - 1)
                    case measure => have := HGJ.out; omega
                    case rel => exact ⟨j + 1, by have := HGJ.out; omega, by go_num, HS7.out⟩
                  | false =>
                    go_wp2_with fail
                    go_roundg (gk - 1)
                    case measure => have := HGJ.out; omega
                    case rel => exact ⟨j + 1, by have := HGJ.out; omega, by go_num, HS7.out⟩
                · have hb1 : b = true := by
                    cases hb : b with
                    | true => rfl
                    | false => exact absurd (by rw [HZ.out]; exact HS1.out (by rw [← HBB.out, hb])) hyz
                  subst hb1
                  have hon : once (.string (UInt8.ofNat j :: s)) = some (.bool true) := HS2'.out.elim (fun h => absurd (by rw [HZ.out]; exact h) hyz) (fun h => h)
                  obtain ⟨x8, hx8⟩ : ∃ x8, x8 = UInt8.ofNat j := ⟨_, rfl⟩
                  have hw8 : IntKind.u8.wrap (j : Int) = (x8.toNat : Int) := by rw [hx8]; exact byte_of j (by omega)
                  have hkl : (txt [x8] ++ y).data.toList = UInt8.ofNat j :: s := by rw [HY.out, hx8, txt_append]; simp [txt]
                  rw [← hkl] at hon
                  have hxs : (txt [x8]).size = 1 := txt_size _
                  have hxy : (txt [x8]).size + y.size ≤ 9223372036854775807 := by rw [hxs, HYS.out]; omega
                  have hkm : (txt [x8] ++ y).size ≤ maxLen := by rw [ByteArray.size_append, hxs, HYS.out]; unfold maxLen; omega
                  have HON := Lib.hid hon; have HKM := Lib.hid hkm
                  have hsW : SafeW w (w6.alloc (.cells #[.int .u8 x8.toNat] 5)) p F4 st4 ob sb db once no safe dirty := HS7.out.below ((Below.refl _ _).alloc (Nat.le_refl _) _)
                  have hstr := str_byte (w6.alloc (.cells #[.int .u8 x8.toNat] 5)) w6.heap.size x8 (cell_at (heap_alloc_top _ _) rfl)
                  have hlk := hsW.on.look str_key (t := 29) Try.underlying29 (zbool _) (Go.WideMaps.keyOf_string_mk Try.underlying9 HKM.out)
                  rw [HON.out] at hlk
                  replace hlk : (Instr.lookup 29 (.map (some ob)) (.string (txt [x8] ++ y)) false).run Try.prog (w6.alloc (.cells #[.int .u8 x8.toNat] 5)) = .ok (.bool true) (w6.alloc (.cells #[.int .u8 x8.toNat] 5)) := hlk
                  have HSW := Lib.hid hsW
                  clear hon hx8 hkl hxs hkm hsW
                  have hyl : ¬ y.toList = z.toList := fun h => hyz (by rw [ByteArray.toList_eq, ByteArray.toList_eq] at h; exact ByteArray.ext (Array.toList_inj.1 h))
                  clear hyz
                  go_wp2_with fail
                  go_roundg (gk - 1)
                  case measure => have := HGJ.out; omega
                  case rel => exact ⟨j + 1, by have := HGJ.out; omega, by go_num, HSW.out⟩
              · have hjj : j = n := by have := HGJ.out; omega
                clear hjj
                go_wp2_with fail
                go_ret
                exact ⟨rfl, HS6.out.low.1⟩
end Go.Proofs.Ytcabocppplokgaa
