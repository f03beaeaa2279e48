/-
  Layer 5: write's inner function.
  Layer 5: write.
  Layer 5: set.
-/
import Derived.Test.YtjjejkhekmpgcaaGreatMgJ
import Derived.Lib.SlBytesRow
import Derived.Laws.IdiomStrings
namespace Go.Proofs.YtjjejkhekmpgcaaGreat
set_option maxRecDepth 4000
open Go.RowKit

theorem Bytes.touch {w w' : World} {F : Nat → Prop} {g o : Nat} {s : ByteArray} (h : Lib.Bytes w g o s) (ht : Touch F w w') (hg : g < w.heap.size) (hn : ¬ F g) : Lib.Bytes w' g o s := fun i hi => by
  have := h i hi
  unfold World.cell? at this ⊢
  rw [ht.block g hg hn]
  exact this

set_option maxHeartbeats 2000000 in
theorem write1_walk (jb ab q p g pos n cap : Nat) (F : Nat → Prop) (st : Dk) (at' : Int) (s : ByteArray) (w : World) (hd : Disk w p F st) (hq : w.cell? ⟨q, 0, none⟩ = some (.pointer (some ⟨p, 0, none⟩)))
    (hj : w.cell? ⟨jb, 0, none⟩ = some (.pointer (some ⟨q, 0, none⟩))) (ha : w.cell? ⟨ab, 0, none⟩ = some (.int .i64 at')) (hs : Lib.Bytes w g 0 s) (hg : g < w.heap.size) (hpn : pos + n ≤ s.size)
    (hp : (pend st.S at'.toNat).length ≤ 1000000000) :
    Calls Tryz.prog 112 #[.slice (some ⟨g, pos, none⟩) n cap, .pointer (some ⟨jb, 0, none⟩), .pointer (some ⟨ab, 0, none⟩)] w fun e w' => WritePost p F w (writeD st at' (s.extract pos (pos + n))) e w' := by
  have hlt : ∀ {a : Addr} {v : Value}, w.cell? a = some v → a.block < w.heap.size := fun {a v} h => by
    rcases Nat.lt_or_ge a.block w.heap.size with h' | h'
    · exact h'
    · simp [World.cell?, h'] at h
  have cj : ∀ u : Sub w.heap.size w, u.val.cell? ⟨jb, 0, none⟩ = some (.pointer (some ⟨q, 0, none⟩)) := fun u => sub_cell hj (hlt hj) u
  have ca : ∀ u : Sub w.heap.size w, u.val.cell? ⟨ab, 0, none⟩ = some (.int .i64 at') := fun u => sub_cell ha (hlt ha) u
  have cq : ∀ u : Sub w.heap.size w, u.val.cell? ⟨q, 0, none⟩ = some (.pointer (some ⟨p, 0, none⟩)) := fun u => sub_cell hq (hlt hq) u
  have cs : ∀ u : Sub w.heap.size w, (convert 127 9 (.slice (some ⟨g, pos, none⟩) n cap)).run Tryz.prog u.val = .ok (.string (s.extract pos (pos + n))) u.val := fun u => by
    have := Lib.run_convert_window (P := Tryz.prog) u.val 127 5 9 Tryz.underlying127 Tryz.underlying5 Tryz.underlying9 g 0 s (Bytes.touch hs (Touch.ofBelow (fun _ => False) u.below) hg (fun h => h)) pos n cap hpn
    rwa [Nat.zero_add] at this
  have KW := fun (w' : World) (hb : Below w.heap.size w w') => Lib.hid (write_walk p F st at' (s.extract pos (pos + n)) w' (hd.below hb) hp)
  obtain ⟨t, ht⟩ : ∃ t, t = s.extract pos (pos + n) := ⟨_, rfl⟩
  simp only [← ht] at cs KW
  rw [← ht]
  have HCJ := Lib.hid cj; have HCA := Lib.hid ca; have HCQ := Lib.hid cq; have HCS := Lib.hid cs
  clear hd hq hj ha hs hg hpn hp hlt cj ca cq cs ht
  go_enter Tryz.func112, Tryz.ntmps112
  go_upto_region 1 with fail
  have hB0 : Below w.heap.size w w.drew := (Below.refl _ _).drew
  refine wp_region_mixT (inSub w.heap.size w) 7 [(0,true,true),(1,true,true),(2,true,true),(3,true,true),(4,true,true),(5,true,true),(6,true,true),(7,false,false),(8,false,false)] (by kernel_rfl) (by kernel_rfl) (inSub_of hB0) ?_
  generalize w.drew = w0 at hB0 ⊢
  simp only [List.filterMap_cons, List.filterMap_nil, List.getElem?_cons_zero, List.getElem?_cons_succ, Option.map_some]
  repeat (refine mixT_read (by rfl) ?_; apply Exists.intro; refine ⟨fun w9 hw9 => ?_, ?_⟩; (· obtain ⟨x9, rfl⟩ := hw9; have d0 := HCJ.out x9; have d1 := HCA.out x9; have d2 := HCQ.out x9; have d3 := HCS.out x9; go_simp; rfl); simp only [Act.put, List.setIfInBounds_toArray, List.set_cons_succ, List.set_cons_zero])
  refine mixT_tail (by rfl) (fun K' hK => ?_)
  go_simp
  refine (KW w0 hB0).out.mono ?_
  rintro r w1 ⟨rfl, F', hd1, hs1⟩
  have HF := Lib.hid (show WritePost p F w (writeD st at' t) (.returned (.int .i64 (writeD st at' t).1)) w1 from ⟨rfl, F', hd1, (Stp.ofBelow F hB0).trans hs1⟩)
  refine hK _ _ ?_
  clear hK K' hd1 hs1 hB0 KW
  try simp only [Act.put, List.setIfInBounds_toArray, List.set_cons_succ, List.set_cons_zero]
  refine mixT_tail (by rfl) (fun K' hK => ?_)
  go_simp
  refine hK _ _ ?_
  clear hK K'
  try simp only [Act.put, List.setIfInBounds_toArray, List.set_cons_succ, List.set_cons_zero]
  refine mixT_nil (NoPanic.normal ?_)
  go_wp2_with fail
  go_ret
  exact HF.out
end Go.Proofs.YtjjejkhekmpgcaaGreat

namespace Go.Proofs.YtjjejkhekmpgcaaGreat
set_option maxRecDepth 4000
open Go.RowKit

/-- bytes are written from a sector on, sector by sector -/
def wrD : Nat → Dk → Nat → ByteArray → Int × Dk
  | 0, st, _, _ => (0, st)
  | f + 1, st, at', s => if s.size = 0 then (0, st) else
    if (writeD st (at' : Nat) (s.extract 0 (min 64 s.size))).1 ≠ 0 then writeD st (at' : Nat) (s.extract 0 (min 64 s.size))
    else wrD f (writeD st (at' : Nat) (s.extract 0 (min 64 s.size))).2 (at' + 1) (s.extract (min 64 s.size) s.size)
def writesD (st : Dk) (at' : Nat) (s : ByteArray) : Int × Dk := wrD (s.size + 1) st at' s
theorem secOk_write {st : Dk} (ok : secOk st.S) (at' : Int) (s : ByteArray) (hs : s.size ≤ 64) : secOk (writeD st at' s).2.S := by
  unfold writeD
  split
  · exact ok
  · rename_i h0
    split
    · exact ok
    · split
      · exact ok
      · exact secOk_push ok (ready_zero (by simpa using h0)).2.2 (fill_length s hs)
theorem part_size (s : ByteArray) : (s.extract 0 (min 64 s.size)).size ≤ 64 ∧ (s.size ≠ 0 → (s.extract (min 64 s.size) s.size).size + 1 ≤ s.size) := by
  rw [ByteArray.size_extract, ByteArray.size_extract]
  refine ⟨by omega, fun h => ?_⟩
  have : min 64 s.size = 64 ∨ min 64 s.size = s.size := by omega
  rcases this with h1 | h1 <;> rw [h1] <;> omega
theorem wrD_pend : ∀ (f : Nat) (st : Dk) (at' : Nat) (s : ByteArray) (M : Nat), pendMax st.S M → secOk st.S → s.size < f → pendMax (wrD f st at' s).2.S (M + s.size) ∧ secOk (wrD f st at' s).2.S
  | 0, _, _, _, _, _, _, h => absurd h (by omega)
  | f + 1, st, at', s, M, hp, ok, hf => by
    unfold wrD
    by_cases h0 : s.size = 0
    · rw [if_pos h0]; exact ⟨pendMax_le hp (by omega), ok⟩
    · rw [if_neg h0]
      have hsz := part_size s
      have hsz2 := hsz.2 h0
      have h1 := pendMax_write hp ok (at' : Nat) (s.extract 0 (min 64 s.size))
      have ok1 := secOk_write ok (at' : Nat) (s.extract 0 (min 64 s.size)) hsz.1
      by_cases h2 : (writeD st (at' : Nat) (s.extract 0 (min 64 s.size))).1 ≠ 0
      · rw [if_pos h2]; exact ⟨pendMax_le h1 (by omega), ok1⟩
      · rw [if_neg h2]
        obtain ⟨h3, h4⟩ := wrD_pend f (writeD st (at' : Nat) (s.extract 0 (min 64 s.size))).2 (at' + 1) (s.extract (min 64 s.size) s.size) (M + 1) h1 ok1 (by omega)
        exact ⟨pendMax_le h3 (by omega), h4⟩
theorem Touch.cellOf {F : Nat → Prop} {w w' : World} (h : Touch F w w') {a : Addr} (ha : a.block < w.heap.size) (hn : ¬ F a.block) : w'.cell? a = w.cell? a := by
  unfold World.cell?
  rw [h.block a.block ha hn]
theorem touch_new {F : Nat → Prop} {w w' : World} {b off : Nat} (h : Touch F w w') (hb : w.heap.size ≤ b) (v : Value) : Touch F w (w'.setCell ⟨b, off, none⟩ v) :=
  ((h.mono (G := fun k => F k ∨ k = b) (fun k _ hk => .inl hk)).setCell (F := fun k => F k ∨ k = b) (.inr rfl) v).mono (fun k hk h => h.elim id (fun e => by omega))
theorem ex_mid (s : ByteArray) (pos : Nat) (h : pos ≤ s.size) : ((s.extract pos s.size).extract 0 (min 64 (s.extract pos s.size).size)) = s.extract pos (pos + min 64 (s.size - pos)) ∧ (s.extract pos s.size).extract (min 64 (s.extract pos s.size).size) (s.extract pos s.size).size = s.extract (pos + min 64 (s.size - pos)) s.size ∧ (s.extract pos s.size).size = s.size - pos := by
  have hsz : (s.extract pos s.size).size = s.size - pos := by rw [ByteArray.size_extract]; omega
  refine ⟨?_, ?_, hsz⟩
  · rw [hsz, ByteArray.extract_extract, Nat.add_zero]
    congr 1
    omega
  · rw [hsz, ByteArray.extract_extract]
    congr 1
    omega

theorem wrD_fuel : ∀ (f f' : Nat) (st : Dk) (at' : Nat) (s : ByteArray), s.size < f → s.size < f' → wrD f st at' s = wrD f' st at' s
  | 0, _, _, _, _, h, _ => absurd h (by omega)
  | _, 0, _, _, _, _, h => absurd h (by omega)
  | f + 1, f' + 1, st, at', s, h, h' => by
    unfold wrD
    by_cases h0 : s.size = 0
    · rw [if_pos h0, if_pos h0]
    · have hsz := (part_size s).2 h0
      rw [if_neg h0, if_neg h0, wrD_fuel f f' _ _ (s.extract (min 64 s.size) s.size) (by omega) (by omega)]
/-- the loop: what is left to be written -/
def WInv (w wr : World) (q p : Nat) (F : Nat → Prop) (ab jb g at' M : Nat) (s : ByteArray) (R : Int × Dk) (gk : Nat) (vb : Value) : Prop :=
  ∃ (pos c' a' : Nat) (ad : Option Addr) (F' : Nat → Prop) (st' : Dk), vb = .slice ad gk c' ∧ pos + gk = s.size ∧ (0 < gk → ad = some ⟨g, pos, none⟩) ∧ gk ≤ c' ∧ c' ≤ 9223372036854775807 ∧ a' ≤ at' + pos ∧
    wr.heap[ab]? = some (.cells #[.int .i64 a'] 3 (0, 0)) ∧ wrD (gk + 1) st' a' (s.extract pos s.size) = R ∧ pendMax st'.S (M + pos) ∧ Disk wr p F' st' ∧ Stp F w F' wr ∧ (wr.heap[jb]? = some (.cells #[.pointer (some ⟨q, 0, none⟩)] 50 (0, 0)) ∧ Lib.Bytes wr g 0 s ∧ g < wr.heap.size) ∧ ¬ F' ab ∧ ¬ F' jb ∧ ¬ F' g ∧ ¬ F' q

set_option maxHeartbeats 4000000 in
theorem jwrite_walk (q p : Nat) (F : Nat → Prop) (st : Dk) (at' M : Nat) (s : ByteArray) (w : World) (hd : Disk w p F st) (hq : w.cell? ⟨q, 0, none⟩ = some (.pointer (some ⟨p, 0, none⟩))) (hqF : ¬ F q) (hqs : q < w.heap.size)
    (hp : pendMax st.S M) (hM : M + s.size ≤ 1000000000) (ha : at' + s.size ≤ 1000000000) :
    Calls Tryz.prog 85 #[.pointer (some ⟨q, 0, none⟩), .int .i64 at', .string s] w fun e w' => WritePost p F w (writesD st at' s) e w' := by
  obtain ⟨R, hR⟩ : ∃ R, R = writesD st at' s := ⟨_, rfl⟩
  rw [← hR]
  have HR := Lib.hid hR; have HD := Lib.hid hd; have HQ := Lib.hid hq; have HQF := Lib.hid hqF; have HQS := Lib.hid hqs; have HP := Lib.hid hp; have HM := Lib.hid hM; have HA := Lib.hid ha
  obtain ⟨W2, hW2⟩ : ∃ W2, W2 = (w.alloc (.cells #[.pointer (some ⟨q, 0, none⟩)] 50)).alloc (.cells #[.int .i64 (at' : Nat)] 3) := ⟨_, rfl⟩
  obtain ⟨jb, hjb⟩ : ∃ jb, jb = w.heap.size := ⟨_, rfl⟩
  obtain ⟨ab, hab⟩ : ∃ ab, ab = jb + 1 := ⟨_, rfl⟩
  have hb1 : Below w.heap.size w W2 := by rw [hW2]; exact ((Below.refl w.heap.size w).alloc (Nat.le_refl _) _).alloc (by simp) _
  have g1 : W2.heap[jb]? = some (.cells #[.pointer (some ⟨q, 0, none⟩)] 50 (0, 0)) := by
    rw [hW2, hjb]
    exact (((Below.refl (w.alloc (.cells #[.pointer (some ⟨q, 0, none⟩)] 50)).heap.size _).alloc (Nat.le_refl _) (.cells #[.int .i64 (at' : Nat)] 3)).block w.heap.size (by simp)).trans (heap_alloc_top _ _)
  have g2 : W2.heap[ab]? = some (.cells #[.int .i64 (at' : Nat)] 3 (0, 0)) := by
    rw [hW2, hab, hjb, show w.heap.size + 1 = (w.alloc (.cells #[.pointer (some ⟨q, 0, none⟩)] 50)).heap.size by simp]
    exact heap_alloc_top _ _
  obtain ⟨cap, hcap⟩ : ∃ cap, cap = grownCap W2 s.size 0 5 := ⟨_, rfl⟩
  obtain ⟨g, hg⟩ : ∃ g, g = W2.heap.size := ⟨_, rfl⟩
  obtain ⟨W3, hW3⟩ : ∃ W3, W3 = W2.drew.alloc (.cells (bytesRow s cap) 5 ((bytesRow s cap).size, (bytesRow s cap).size + 1)) := ⟨_, rfl⟩
  have kc : (convert 9 127 (.string s)).run Tryz.prog W2 = .ok (.slice (some ⟨g, 0, none⟩) s.size cap) W3 := by
    rw [hg, hW3, hcap]
    exact run_bytes_of_string (P := Tryz.prog) W2 9 127 5 s Tryz.underlying9 Tryz.underlying127 Tryz.underlying5
  have hc1 : s.size ≤ cap := by rw [hcap]; exact grownCap_ge _ _ _ _
  have hc2 : cap ≤ 9223372036854775807 := by
    have h9 : s.size ≤ maxLen := by unfold maxLen; omega
    have := grownCap_le_maxLen W2 s.size 0 5 h9
    rw [hcap]
    unfold maxLen at this
    omega
  have hb3 : Below W2.heap.size W2 W3 := by rw [hW3]; exact (Below.refl W2.heap.size W2).drew.alloc (Nat.le_refl _) _
  have hbs : Lib.Bytes W3 g 0 s := fun i hi => by
    rw [hW3, hg, Nat.zero_add]
    have := World.cell?_alloc_mark W2.drew (bytesRow s cap) 5 ((bytesRow s cap).size, (bytesRow s cap).size + 1) i
    rw [show W2.drew.heap.size = W2.heap.size from rfl] at this
    rw [this, bytesRow_at s cap i hi]
    rfl
  have hg3 : g < W3.heap.size := by rw [hW3, hg]; simp
  have j3 := (hb3.block jb (lt_of_block g1)).trans g1
  have a3 := (hb3.block ab (lt_of_block g2)).trans g2
  have hb13 := hb1.trans (hb3.mono hb1.size)
  have HJB := Lib.hid hjb; have HAB := Lib.hid hab; have HW2 := Lib.hid hW2; have HJ3 := Lib.hid j3; have HA3 := Lib.hid a3; have HB13 := Lib.hid hb13; have HBS := Lib.hid hbs; have HG3 := Lib.hid hg3; have HC1 := Lib.hid hc1; have HC2 := Lib.hid hc2; have HGE := Lib.hid (show w.heap.size ≤ g by rw [hg]; exact hb1.size); have HGA := Lib.hid (show ab < g by rw [hg]; exact lt_of_block g2)
  clear hR hd hq hqF hqs hp hM ha hjb hab hW2 hb1 g1 g2 hcap hg hW3 hc1 hc2 hb3 hbs hg3 j3 a3 hb13
  go_enter Tryz.func85, Tryz.ntmps85
  go_upto_region 1 with fail
  refine wp_world HW2.out ?_
  rw [show w.heap.size + 1 = ab by rw [HAB.out, HJB.out], ← HJB.out]
  clear HW2
  go_wp2_with fail
  go_loopg [7] s.size (fun gk vb wr => WInv w wr q p F ab jb g at' M s R gk vb)
  case atStart =>
    have hn : ∀ k, w.heap.size ≤ k → ¬ F k := fun k hk hf => by have := HD.out.lt k hf; omega
    exact ⟨0, cap, at', _, F, st, rfl, by omega, fun _ => rfl, HC1.out, HC2.out, by omega, HA3.out, by rw [ByteArray.extract_zero_size]; exact HR.out.symm, pendMax_le HP.out (by omega), HD.out.below (HB13.out), Stp.ofBelow F HB13.out, ⟨HJ3.out, HBS.out, HG3.out⟩, hn ab (by rw [HAB.out, HJB.out]; omega), hn jb (by rw [HJB.out]; omega), hn g HGE.out, HQF.out⟩
  case round =>
    obtain ⟨pos, c', a', ad, F', st', rfl, hpg, had, hgc, hc9, haa, hab, hwr, hpm, hdk, hst, ⟨hjb, hbs, hgs⟩, n1', n2', n3', n4'⟩ := hrel
    have HPG := Lib.hid hpg; have HAA := Lib.hid haa; have HWR := Lib.hid hwr; have HPM := Lib.hid hpm; have HDK := Lib.hid hdk; have HST := Lib.hid hst; have HJB2 := Lib.hid hjb; have HBS2 := Lib.hid hbs; have HGS := Lib.hid hgs; have HN := Lib.hid (And.intro n1' (And.intro n2' (And.intro n3' n4'))); have HAB2 := Lib.hid hab
    by_cases h0 : (0 : Int) < (gk : Int)
    · obtain rfl := had (by omega)
      have hwx := hwr
      unfold wrD at hwx
      obtain ⟨e1, e2, e3⟩ := ex_mid s pos (by omega)
      rw [e2, e1, e3] at hwx
      have hgke : s.size - pos = gk := by omega
      rw [hgke, if_neg (by omega)] at hwx
      obtain ⟨m, hm⟩ : ∃ m, m = min 64 gk := ⟨_, rfl⟩
      rw [← hm] at hwx
      have KW := Lib.hid (write1_walk jb ab q p g pos m m F' st' a' s wr hdk ((hst.touch.cellOf (a := ⟨q, 0, none⟩) HQS.out HQF.out).trans HQ.out) (cell_at hjb rfl) (cell_at hab rfl) hbs hgs (by omega) (by have := hpm ((a' : Int).toNat); have := HM.out; omega))
      have HWX := Lib.hid hwx; have HMM := Lib.hid hm
      have hmi : (min 64 (gk : Int)) = (m : Int) := by omega
      clear hab hwr hpm hdk hst hjb hbs hgs n1' n2' n3' n4' hwx e1 e2 e3 had haa hm
      go_upto_region 5 with fail
      have hmg : m ≤ gk := by have := HMM.out; omega
      have hmgi : (m : Int) ≤ (gk : Int) := by omega
      have hmc : (m : Int) ≤ (c' : Int) := by omega
      have hm1 : 0 < m := by have := HMM.out; omega
      have hgki : (gk : Int) ≤ (c' : Int) := by omega
      obtain ⟨r, hr⟩ : ∃ r, r = writeD st' a' (s.extract pos (pos + m)) := ⟨_, rfl⟩
      have hpm2 := pendMax_write HPM.out HDK.out.ok (a' : Nat) (s.extract pos (pos + m))
      rw [← hr] at KW HWX hpm2
      have HPM2 := Lib.hid hpm2
      have HM1 := Lib.hid hm1; have HMG := Lib.hid hmg
      clear hr hpm2 hmi
      obtain ⟨e, st2⟩ := r
      go_upto_region 6 with (refine KW.out.mono ?_; rintro r w5 ⟨rfl, F5, hd5, hs5⟩)
      have j5 := (hs5.touch.block jb (lt_of_block HJB2.out) HN.out.2.1).trans HJB2.out
      have a5 := (hs5.touch.block ab (lt_of_block HAB2.out) HN.out.1).trans HAB2.out
      have b5 := Bytes.touch HBS2.out hs5.touch HGS.out HN.out.2.2.1
      have hF5 : ∀ k, k < wr.heap.size → ¬ F' k → ¬ F5 k := fun k hk hn hf => (hs5.new k hf).elim hn (fun h => by omega)
      have nn5 : ¬ F5 ab ∧ ¬ F5 jb ∧ ¬ F5 g ∧ ¬ F5 q := ⟨hF5 ab (lt_of_block HAB2.out) HN.out.1, hF5 jb (lt_of_block HJB2.out) HN.out.2.1, hF5 g HGS.out HN.out.2.2.1, hF5 q (Nat.lt_of_lt_of_le HQS.out HST.out.touch.size) HN.out.2.2.2⟩
      have J5 := Lib.hid j5; have A5 := Lib.hid a5; have B5 := Lib.hid b5; have NN5 := Lib.hid nn5; have D5 := Lib.hid hd5; have S5 := Lib.hid (HST.out.trans hs5); have G5 := Lib.hid (Nat.lt_of_lt_of_le HGS.out hs5.touch.size)
      clear j5 a5 b5 hF5 nn5 hd5 hs5 HJB2 HAB2 HBS2 HGS HN HDK HST HPM
      by_cases he : e = 0
      · subst he
        have hR2 : wrD gk st2 (a' + 1) (s.extract (pos + m) s.size) = R := by
          have := HWX.out
          rwa [if_neg (by simp)] at this
        have HR2 := Lib.hid hR2
        have ca := cell_at (j := 0) (v := .int .i64 a') A5.out rfl
        have fa := free_at A5.out 0
        have ha9 : (a' : Int) ≤ 1000000000 := by have := HAA.out; have := HA.out; have := HPG.out; omega
        have haw : IntKind.i64.wrap ((a' : Int) + 1) = ((a' + 1 : Nat) : Int) := by
          rw [show (a' : Int) + 1 = ((a' + 1 : Nat) : Int) by omega]
          exact IntWalk.i64_in _ (by omega)
        clear hR2
        have hsa := set_at (i := 0) A5.out (.int .i64 ((a' : Int) + 1))
        have hta : Touch (fun k => k = ab) w5 (w5.setCell ⟨ab, 0, none⟩ (.int .i64 ((a' : Int) + 1))) := (Touch.refl (fun k => k = ab) w5).setCell (F := fun k => k = ab) rfl _
        have hwab : w.heap.size ≤ ab := by rw [HAB.out, HJB.out]; omega
        have K1 := Lib.hid (show (w5.setCell ⟨ab, 0, none⟩ (.int .i64 ((a' : Int) + 1))).heap[ab]? = some (.cells #[.int .i64 ((a' + 1 : Nat) : Int)] 3 (0, 0)) from hsa)
        have K2 := Lib.hid (D5.out.touch hta (fun k hk e => NN5.out.1 (e ▸ hk)))
        have K3 := Lib.hid (show Stp F w F5 (w5.setCell ⟨ab, 0, none⟩ (.int .i64 ((a' : Int) + 1))) from ⟨touch_new S5.out.touch hwab _, S5.out.new⟩)
        have K4 := Lib.hid (hta.block jb (lt_of_block J5.out) (by have := HAB.out; omega) |>.trans J5.out)
        have K5 := Lib.hid (Bytes.touch B5.out hta G5.out (by have := HGA.out; omega))
        have K6 := Lib.hid (Nat.lt_of_lt_of_le G5.out hta.size)
        clear hsa hta
        have K7 := Lib.hid (show pendMax st2.S (M + (pos + m)) from pendMax_le HPM2.out (by have := HM1.out; omega))
        have K8 := Lib.hid (show wrD (gk - m + 1) st2 (a' + 1) (s.extract (pos + m) s.size) = R by
          have hsz : (s.extract (pos + m) s.size).size = gk - m := by rw [ByteArray.size_extract]; have := HPG.out; omega
          rw [wrD_fuel (gk - m + 1) gk _ _ _ (by rw [hsz]; omega) (by rw [hsz]; have := HM1.out; omega)]
          exact HR2.out)
        have hfin : ∀ (ad' : Option Addr) (c2 : Nat), (0 < gk - m → ad' = some ⟨g, pos + m, none⟩) → gk - m ≤ c2 → c2 ≤ 9223372036854775807 →
            WInv w (w5.setCell ⟨ab, 0, none⟩ (.int .i64 ((a' : Int) + 1))) q p F ab jb g at' M s R (gk - m) (.slice ad' (gk - m) c2) := fun ad' c2 h1 h2 h3 =>
          ⟨pos + m, c2, a' + 1, ad', F5, st2, rfl, by have := HPG.out; have := HMG.out; omega, h1, h2, h3, by have := HAA.out; have := HM1.out; omega, K1.out, K8.out, K7.out, K2.out, K3.out, ⟨K4.out, K5.out, K6.out⟩, NN5.out⟩
        have HFIN := Lib.hid hfin
        clear hfin K1 K2 K3 K4 K5 K6 K7 K8 HR2 J5 A5 B5 D5 S5 G5 NN5 hwab
        go_wp2_with fail
        all_goals go_roundg (gk - m)
        case measure => have := HM1.out; omega
        case rel => exact HFIN.out _ _ (fun h => by omega) (by omega) (by omega)
        case measure => have := HM1.out; omega
        case rel => exact HFIN.out _ _ (fun h => rfl) (by omega) (by omega)
      · have hR2 : R = (e, st2) := by
          have := HWX.out
          rw [if_pos he] at this
          exact this.symm
        subst hR2
        have hz := beq_no he
        go_wp2_with fail
        go_ret
        exact ⟨rfl, F5, D5.out, S5.out⟩
    · obtain rfl : gk = 0 := by omega
      have hR2 : R = (0, st') := by
        rw [← hwr]
        unfold wrD
        rw [if_pos (by rw [ByteArray.size_extract]; omega)]
      subst hR2
      clear had
      go_wp2_with fail
      go_ret
      exact ⟨rfl, F', HDK.out, HST.out⟩
end Go.Proofs.YtjjejkhekmpgcaaGreat

namespace Go.Proofs.YtjjejkhekmpgcaaGreat
set_option maxRecDepth 4000
open Go.RowKit

/-- bytes of a half are written, a head is set: what is answered, and left -/
def setD (st : Dk) (j : Jn) (half from' : Nat) (s : ByteArray) : Int × Dk :=
  if (flushJ (writesD st (2 + half * sizeN st.S.length + from' / 64) s)).1 ≠ 0 then flushJ (writesD st (2 + half * sizeN st.S.length + from' / 64) s)
  else flushJ (writeD (flushJ (writesD st (2 + half * sizeN st.S.length + from' / 64) s)).2 (((j.seq + 1) % 2 : Nat) : Int) ⟨(headB (j.seq + 1) half (from' + s.size)).toArray⟩)
def setJ (st : Dk) (j : Jn) (half from' : Nat) (s : ByteArray) : Jn :=
  if (setD st j half from' s).1 ≠ 0 then ⟨j.seq, j.half, j.used, j.tail, true⟩ else ⟨j.seq + 1, half, from' + s.size, s.extract (s.size - (from' + s.size) % 64) s.size, j.broken⟩
/-- what it leaves -/
def SetPost (w : World) (q p : Nat) (F : Nat → Prop) (r : Int × Dk) (j : Jn) (e : Ending) (w' : World) : Prop :=
  e = .returned (.int .i64 r.1) ∧ ∃ F', Disk w' p F' r.2 ∧ JnAt w' q p j ∧ ¬ F' q ∧ Stp (fun k => F k ∨ k = q) w (fun k => F' k ∨ k = q) w'
theorem flushJ_pend (r : Int × Dk) {n : Nat} (h : pendMax r.2.S n) : pendMax (flushJ r).2.S n := by
  unfold flushJ
  split
  · exact h
  · exact pendMax_flush h
theorem Stp.more {F F' : Nat → Prop} {w w' : World} (h : Stp F w F' w') (q : Nat) : Stp (fun k => F k ∨ k = q) w (fun k => F' k ∨ k = q) w' :=
  ⟨h.touch.mono (fun _ _ hk => .inl hk), fun k hk => hk.elim (fun hk => (h.new k hk).elim (fun h => .inl (.inl h)) .inr) (fun e => .inl (.inr e))⟩
theorem wrD_length : ∀ (f : Nat) (st : Dk) (at' : Nat) (s : ByteArray), (wrD f st at' s).2.S.length = st.S.length
  | 0, _, _, _ => rfl
  | f + 1, st, at', s => by
    have hw : ∀ (a : Int) (t : ByteArray), (writeD st a t).2.S.length = st.S.length := fun a t => by
      unfold writeD
      split
      · rfl
      · split
        · rfl
        · split
          · rfl
          · exact putS_length _ _ _
    unfold wrD
    split
    · rfl
    · split
      · exact hw _ _
      · rw [wrD_length f]; exact hw _ _
theorem flushJ_length (r : Int × Dk) : (flushJ r).2.S.length = r.2.S.length := by
  unfold flushJ flushD
  split
  · rfl
  · split
    · rfl
    · split
      · rfl
      · exact settleN_length _ _ _ _

theorem writesD_one (st : Dk) (a : Nat) (t : ByteArray) (h0 : 0 < t.size) (h64 : t.size ≤ 64) : writesD st a t = writeD st (a : Nat) t := by
  have hx : t.extract 0 (min 64 t.size) = t := by
    rw [show min 64 t.size = t.size by omega]
    exact ByteArray.extract_zero_size
  obtain ⟨n, hn⟩ : ∃ n, t.size = n + 1 := ⟨t.size - 1, by omega⟩
  unfold writesD
  rw [hn]
  unfold wrD
  rw [if_neg (by omega), hx]
  by_cases he : (writeD st (a : Nat) t).1 ≠ 0
  · rw [if_pos he]
  · rw [if_neg he]
    unfold wrD
    rw [if_pos (by rw [ByteArray.size_extract]; omega)]
    exact Prod.ext (Decidable.byContradiction fun h => he (fun e => h e.symm)) rfl
set_option maxHeartbeats 2000000 in
theorem set_walk (q p : Nat) (F : Nat → Prop) (st : Dk) (j : Jn) (half from' M : Nat) (s : ByteArray) (w : World) (hd : Disk w p F st) (hj : JnAt w q p j) (hqF : ¬ F q) (h4 : 4 ≤ st.S.length) (hh : half ≤ 1)
    (hp : pendMax st.S M) (hM : M ≤ 500000000) (hs : s.size ≤ 400000) (hf : from' ≤ 400000) (hrem : (from' + s.size) % 64 ≤ s.size) (hsq : j.seq < 9223372036854775807) :
    Calls Tryz.prog 56 #[.pointer (some ⟨q, 0, none⟩), .int .i64 half, .int .i64 from', .string s] w fun e w' => SetPost w q p F (setD st j half from' s) (setJ st j half from' s) e w' := by
  obtain ⟨R, hR⟩ : ∃ R, R = setD st j half from' s := ⟨_, rfl⟩
  obtain ⟨J, hJ⟩ : ∃ J, J = setJ st j half from' s := ⟨_, rfl⟩
  have hJ2 := hJ
  unfold setJ at hJ2
  rw [← hR] at hJ2
  have hR2 := hR
  unfold setD at hR2
  rw [← hR, ← hJ]
  have hz4 : sizeN st.S.length ≤ 4096 := by have := hd.ok.2.1; unfold sizeN; omega
  obtain ⟨B, hB⟩ : ∃ B, B = 2 + half * sizeN st.S.length := ⟨_, rfl⟩
  have hB4 : B ≤ 9000 := by
    have : half * sizeN st.S.length ≤ 1 * sizeN st.S.length := Nat.mul_le_mul_right _ hh
    omega
  have ok := hd.ok
  have KF := fun w' (hd' : Disk w' p F st) => Lib.hid (first_walkJ p F st half w' hd' (by omega) hh)
  rw [← hB] at hR2 KF
  obtain ⟨fd, hfd⟩ : ∃ fd, fd = from' / 64 := ⟨_, rfl⟩
  rw [← hfd] at hR2
  have HFD := Lib.hid hfd
  obtain ⟨r1, hr1⟩ : ∃ r1, r1 = writesD st (B + fd) s := ⟨_, rfl⟩
  have hpr1 : pendMax r1.2.S (M + s.size) ∧ secOk r1.2.S := by rw [hr1]; exact wrD_pend _ _ _ _ _ hp ok (by omega)
  have KW := fun w' (hd' : Disk w' p F st) (hj' : JnAt w' q p j) => Lib.hid (jwrite_walk q p F st (B + fd) M s w' hd' hj'.c0 hqF (lt_of_block hj') hp (by omega) (by omega))
  rw [← hr1] at hR2
  simp only [← hr1] at KW
  obtain ⟨r2, hr2⟩ : ∃ r2, r2 = flushJ r1 := ⟨_, rfl⟩
  have hpr2 : pendMax r2.2.S (M + s.size) := by rw [hr2]; exact flushJ_pend _ hpr1.1
  rw [← hr2] at hR2
  obtain ⟨x, hx⟩ : ∃ x, x = from' + s.size := ⟨_, rfl⟩
  rw [← hx] at hR2 hJ2 hrem
  obtain ⟨n, hn⟩ : ∃ n, n = j.seq + 1 := ⟨_, rfl⟩
  rw [← hn] at hR2 hJ2
  have KL := fun w' => Lib.hid (hlay_walk n half x w' (by omega) (by omega) (by omega))
  have hhl := headB_length n half x (by omega) (by omega) (by omega)
  obtain ⟨t, ht⟩ : ∃ t : ByteArray, t = ⟨(headB n half x).toArray⟩ := ⟨_, rfl⟩
  simp only [← ht] at KL
  have hts : 0 < t.size ∧ t.size ≤ 64 := by rw [ht, bytes_len]; omega
  have HTS := Lib.hid hts
  rw [← ht] at hR2
  obtain ⟨seq, jh, ju, jt, jb⟩ := j
  replace hn : n = seq + 1 := hn
  replace hsq : seq < 9223372036854775807 := hsq
  have HR := Lib.hid hR2; have HJ := Lib.hid hJ2; have HD := Lib.hid hd; have HJN := Lib.hid hj; have HQF := Lib.hid hqF; have HPR1 := Lib.hid hpr1; have HPR2 := Lib.hid hpr2; have HR2 := Lib.hid hr2; have HREM := Lib.hid hrem
  have hni : IntKind.i64.wrap ((seq : Int) + 1) = (n : Int) := by rw [hn]; rw [show (seq : Int) + 1 = ((seq + 1 : Nat) : Int) by omega]; exact IntWalk.i64_in _ (by omega)
  have hxi : IntKind.i64.wrap ((from' : Int) + (s.size : Int)) = (x : Int) := by rw [hx]; rw [show (from' : Int) + (s.size : Int) = ((from' + s.size : Nat) : Int) by omega]; exact IntWalk.i64_in _ (by omega)
  have HX := Lib.hid hx; have HN := Lib.hid hn; have HS := Lib.hid hs; have HFR := Lib.hid hf; have HB4 := Lib.hid hB4; have HM := Lib.hid hM
  have c1 : w.cell? ⟨q, 1, none⟩ = some (.int .i64 seq) := hj.c1
  have hss : (seq : Int) ≤ 9223372036854775806 := by omega
  have hs4 : (s.size : Int) ≤ 400000 := by omega
  have hf4 : (from' : Int) ≤ 400000 := by omega
  clear hfd hR hJ hR2 hJ2 hz4 hB hB4 ok hr1 hpr1 hr2 hpr2 hx hn ht hhl hts hd hj hqF hp hrem hsq hs hf hM
  go_enter Tryz.func56, Tryz.ntmps56
  go_upto_region 3 with fail
  obtain ⟨hb, hhb⟩ : ∃ hb, hb = w.heap.size := ⟨_, rfl⟩
  have gh := heap_alloc_top w (.cells #[.int .i64 n, .int .i64 half, .int .i64 x] 92)
  have hb1 : Below w.heap.size w (w.alloc (.cells #[.int .i64 n, .int .i64 half, .int .i64 x] 92)) := (Below.refl w.heap.size w).alloc (Nat.le_refl _) _
  rw [← hhb] at gh ⊢
  generalize w.alloc (.cells #[.int .i64 n, .int .i64 half, .int .i64 x] 92) = W at gh hb1 ⊢
  have HDW := Lib.hid (HD.out.below hb1)
  have HJW := Lib.hid (HJN.out.below hb1)
  have HBW := Lib.hid hb1; have GH := Lib.hid gh
  have HHB := Lib.hid (And.intro (show hb ≠ q from fun e => by have := lt_of_block HJN.out; omega) (show w.heap.size ≤ hb by omega))
  clear c1 hni hxi hb1 gh hhb
  obtain ⟨C, hC⟩ : ∃ C : World → Prop, C = fun w9 => JnAt w9 q p ⟨seq, jh, ju, jt, jb⟩ := ⟨_, rfl⟩
  have HCO := Lib.hid (show ∀ w9, JnAt w9 q p ⟨seq, jh, ju, jt, jb⟩ → C w9 from fun w9 h => by rw [hC]; exact h)
  have HC0 := Lib.hid (show ∀ w9, C w9 → w9.cell? ⟨q, 0, none⟩ = some (.pointer (some ⟨p, 0, none⟩)) from fun w9 h => by
    rw [hC] at h
    exact JnAt.c0 h)
  clear hC
  have hB0 : Below W.heap.size W W.drew := (Below.refl _ _).drew
  have hdiv : (from' : Int).tdiv 64 = (fd : Int) := by rw [Int.tdiv_eq_ediv_of_nonneg (by omega), HFD.out]; omega
  have hdiv2 : (from' : Int) / 64 = (fd : Int) := by rw [HFD.out]; omega
  have hfd4 : (fd : Int) ≤ 9000 := by rw [HFD.out]; omega
  have hB4i : (B : Int) ≤ 9000 := by have := HB4.out; omega
  refine wp_region_mix C [(0,true),(1,true),(2,true),(3,true),(4,true),(5,true),(6,true),(7,true),(8,true),(9,true),(11,true),(12,true),(14,true),(10,false),(13,true),(15,false),(16,false),(17,true)] (by kernel_rfl) (by kernel_rfl) (HCO.out _ (HJW.out.below hB0)) ?_
  generalize W.drew = w0 at hB0 ⊢
  simp only [List.filterMap_cons, List.filterMap_nil, List.getElem?_cons_zero, List.getElem?_cons_succ, Option.map_some]
  repeat (refine mix_read (by rfl) ?_; apply Exists.intro; refine ⟨fun w9 hw9 => ?_, ?_⟩; (· have d0 := HC0.out w9 hw9; go_simp; rfl); simp only [Act.put, List.setIfInBounds_toArray, List.set_cons_succ, List.set_cons_zero])
  refine mix_step (by rfl) (fun K' hK => ?_)
  go_simp
  go_at_call 82
  refine (KF w0 (HDW.out.below hB0)).out.mono ?_
  rintro e w1 ⟨rfl, rfl⟩
  refine hK _ _ (HCO.out _ (HJW.out.below hB0)) ?_
  clear hK K'
  try simp only [Act.put, List.setIfInBounds_toArray, List.set_cons_succ, List.set_cons_zero]
  refine mix_read (by rfl) ?_; apply Exists.intro; refine ⟨fun w9 hw9 => ?_, ?_⟩; (· go_simp; rfl); simp only [Act.put, List.setIfInBounds_toArray, List.set_cons_succ, List.set_cons_zero]
  have hfw : IntKind.i64.wrap (fd : Int) = (fd : Int) := IntWalk.i64_in _ (by omega)
  have hbw : IntKind.i64.wrap ((B : Int) + (fd : Int)) = ((B + fd : Nat) : Int) := by rw [show (B : Int) + (fd : Int) = ((B + fd : Nat) : Int) by omega]; exact IntWalk.i64_in _ (by omega)
  rw [hfw, hbw]
  refine mix_step (by rfl) (fun K' hK => ?_)
  go_simp
  go_at_call 85
  refine (KW w1 (HDW.out.below hB0) (HJW.out.below hB0)).out.mono ?_
  rintro e w2 ⟨rfl, F1, hd2, hs2⟩
  have hj2 := (HJW.out.below hB0).touch hs2.touch HQF.out
  have nq2 : ¬ F1 q := fun hf => (hs2.new q hf).elim HQF.out (fun h => by have := lt_of_block (HJW.out.below hB0); omega)
  have g2 := (hs2.touch.block hb (Nat.lt_of_lt_of_le (lt_of_block GH.out) hB0.size) (fun hf => by have := HD.out.lt hb hf; have := HHB.out.2; omega)).trans ((hB0.block hb (lt_of_block GH.out)).trans GH.out)
  have nh2 : ¬ F1 hb := fun hf => (hs2.new hb hf).elim (fun hf => by have := HD.out.lt hb hf; have := HHB.out.2; omega) (fun h => by have := lt_of_block GH.out; have := hB0.size; omega)
  refine hK _ _ (HCO.out _ hj2) ?_
  clear hK K'
  try simp only [Act.put, List.setIfInBounds_toArray, List.set_cons_succ, List.set_cons_zero]
  have S2 := Lib.hid ((Stp.ofBelow F (HBW.out.trans (hB0.mono HBW.out.size))).trans hs2)
  have KFL := Lib.hid (jflush_walk p F1 r1.2 r1.1 w2 hd2 (fun i => by have := HPR1.out.1 i; have := HM.out; have := HS.out; omega))
  rw [← HR2.out] at KFL
  refine mix_step (by rfl) (fun K' hK => ?_)
  go_simp
  go_at_call 62
  refine KFL.out.mono ?_
  rintro e w3 ⟨rfl, F2, hd3, hs3⟩
  have hj3 := hj2.touch hs3.touch nq2
  have nq3 : ¬ F2 q := fun hf => (hs3.new q hf).elim nq2 (fun h => by have := lt_of_block hj2; omega)
  have g3 := (hs3.touch.block hb (lt_of_block g2) nh2).trans g2
  have nh3 : ¬ F2 hb := fun hf => (hs3.new hb hf).elim nh2 (fun h => by have := lt_of_block g2; omega)
  refine hK _ _ (HCO.out _ hj3) ?_
  clear hK K'
  try simp only [Act.put, List.setIfInBounds_toArray, List.set_cons_succ, List.set_cons_zero]
  have D3 := Lib.hid hd3; have J3 := Lib.hid hj3; have NQ3 := Lib.hid (And.intro nq3 nh3); have G3 := Lib.hid g3; have S3 := Lib.hid (S2.out.trans hs3)
  clear hd3 hj3 nq3 nh3 g3 hs3 hd2 hj2 nq2 nh2 g2 hs2 KFL S2 KW KF hfw hbw hB0 HC0 HCO HDW HJW HBW GH
  repeat (refine mix_read (by rfl) ?_; apply Exists.intro; refine ⟨fun w9 hw9 => ?_, ?_⟩; (· go_simp; rfl); simp only [Act.put, List.setIfInBounds_toArray, List.set_cons_succ, List.set_cons_zero])
  refine mix_nil (NoPanic.normal ?_)
  obtain ⟨e2, st2⟩ := r2
  by_cases he : e2 = 0
  · subst he
    obtain ⟨rm, hrm⟩ : ∃ rm, rm = n % 2 := ⟨_, rfl⟩
    have hrmi : (n : Int).tmod 2 = (rm : Int) := by rw [Int.tmod_eq_emod_of_nonneg (by omega), hrm]; omega
    have hrm2 : rm ≤ 1 := by omega
    have hR1 := HR.out
    rw [if_neg (by simp), ← hrm, ← writesD_one st2 rm t HTS.out.1 HTS.out.2] at hR1
    have HR1 := Lib.hid hR1
    have KW2 := fun w' (hd' : Disk w' p F2 st2) (hj' : JnAt w' q p ⟨seq, jh, ju, jt, jb⟩) => Lib.hid (jwrite_walk q p F2 st2 rm (M + s.size) t w' hd' hj'.c0 NQ3.out.1 (lt_of_block hj') HPR2.out (by have := HTS.out.2; have := HM.out; have := HS.out; omega) (by have := HTS.out.2; omega))
    obtain ⟨r3, hr3⟩ : ∃ r3, r3 = writesD st2 rm t := ⟨_, rfl⟩
    have hpr3 : pendMax r3.2.S (M + s.size + t.size) := by rw [hr3]; exact (wrD_pend _ _ _ _ _ HPR2.out D3.out.ok (by omega)).1
    rw [← hr3] at HR1
    simp only [← hr3] at KW2
    have HPR3 := Lib.hid hpr3
    clear hrm hR1 hr3 hpr3
    go_upto_region 5 with fail
    obtain ⟨C, hC⟩ : ∃ C : World → Prop, C = fun w9 => JnAt w9 q p ⟨seq, jh, ju, jt, jb⟩ ∧ w9.heap[hb]? = some (.cells #[.int .i64 n, .int .i64 half, .int .i64 x] 92 (0, 0)) := ⟨_, rfl⟩
    have HCO := Lib.hid (show ∀ w9, JnAt w9 q p ⟨seq, jh, ju, jt, jb⟩ → w9.heap[hb]? = some (.cells #[.int .i64 n, .int .i64 half, .int .i64 x] 92 (0, 0)) → C w9 from fun w9 h h2 => by rw [hC]; exact ⟨h, h2⟩)
    have HC0 := Lib.hid (show ∀ w9, C w9 → w9.cell? ⟨q, 0, none⟩ = some (.pointer (some ⟨p, 0, none⟩)) from fun w9 h => by
      rw [hC] at h
      exact JnAt.c0 h.1)
    have HCI := Lib.hid (show ∀ w9, C w9 → w9.heap[hb]? = some (.cells #[.int .i64 n, .int .i64 half, .int .i64 x] 92 (0, 0)) from fun w9 h => by
      rw [hC] at h
      exact h.2)
    have HC1 := Lib.hid (show ∀ w9, C w9 → w9.cell? ⟨hb, 0, none⟩ = some (.int .i64 n) from fun w9 h => cell_at (HCI.out w9 h) rfl)
    clear hC
    have hB0 : Below w3.heap.size w3 w3.drew := (Below.refl _ _).drew
    refine wp_region_mix C [(0,true),(1,true),(2,true),(3,true),(4,true),(5,true),(6,true),(7,true),(8,true),(9,false),(10,false),(11,false),(12,true)] (by kernel_rfl) (by kernel_rfl) (HCO.out _ (J3.out.below hB0) ((hB0.block hb (lt_of_block G3.out)).trans G3.out)) ?_
    generalize w3.drew = w4 at hB0 ⊢
    simp only [List.filterMap_cons, List.filterMap_nil, List.getElem?_cons_zero, List.getElem?_cons_succ, Option.map_some]
    repeat (refine mix_read (by rfl) ?_; apply Exists.intro; refine ⟨fun w9 hw9 => ?_, ?_⟩; (· have d0 := HC0.out w9 hw9; have d1 := HC1.out w9 hw9; go_simp; rfl); simp only [Act.put, List.setIfInBounds_toArray, List.set_cons_succ, List.set_cons_zero])
    refine mix_load_row 92 _ rfl (by rfl) hb (by rfl) 92 #[.int .i64 n, .int .i64 half, .int .i64 x] (0, 0) _ (fun w9 h9 => HCI.out w9 h9) Tryz.underlying92 rfl info_head ?_
    try simp only [Act.put, List.setIfInBounds_toArray, List.set_cons_succ, List.set_cons_zero]
    refine mix_step (by rfl) (fun K' hK => ?_)
    go_simp
    go_at_call 63
    refine (KL w4).out.mono ?_
    rintro e w5 ⟨rfl, hb5⟩
    have hb35 := hB0.trans (hb5.mono hB0.size)
    have hj5 := J3.out.below hb35
    have g5 := (hb35.block hb (lt_of_block G3.out)).trans G3.out
    have hd5 := D3.out.below hb35
    refine hK _ _ (HCO.out _ hj5 g5) ?_
    clear hK K'
    try simp only [Act.put, List.setIfInBounds_toArray, List.set_cons_succ, List.set_cons_zero]
    refine mix_step (by rfl) (fun K' hK => ?_)
    go_simp
    refine (KW2 w5 hd5 hj5).out.mono ?_
    rintro e w6 ⟨rfl, F3, hd6, hs6⟩
    have hj6 := hj5.touch hs6.touch NQ3.out.1
    have nq6 : ¬ F3 q := fun hf => (hs6.new q hf).elim NQ3.out.1 (fun h => by have := lt_of_block hj5; omega)
    have g6 := (hs6.touch.block hb (lt_of_block g5) NQ3.out.2).trans g5
    have nh6 : ¬ F3 hb := fun hf => (hs6.new hb hf).elim NQ3.out.2 (fun h => by have := lt_of_block g5; omega)
    refine hK _ _ (HCO.out _ hj6 g6) ?_
    clear hK K'
    try simp only [Act.put, List.setIfInBounds_toArray, List.set_cons_succ, List.set_cons_zero]
    have S6 := Lib.hid (S3.out.trans ((Stp.ofBelow F2 hb35).trans hs6))
    have KFL := Lib.hid (jflush_walk p F3 r3.2 r3.1 w6 hd6 (fun i => by have := HPR3.out i; have := HM.out; have := HS.out; have := HTS.out.2; omega))
    obtain ⟨r4, hr4⟩ : ∃ r4, r4 = flushJ r3 := ⟨_, rfl⟩
    have HR4 := Lib.hid (HR1.out.trans hr4.symm)
    rw [show flushJ (r3.1, r3.2) = r4 from hr4.symm] at KFL
    clear hr4
    refine mix_step (by rfl) (fun K' hK => ?_)
    go_simp
    go_at_call 62
    refine KFL.out.mono ?_
    rintro e w7 ⟨rfl, F4, hd7, hs7⟩
    have hj7 := hj6.touch hs7.touch nq6
    have nq7 : ¬ F4 q := fun hf => (hs7.new q hf).elim nq6 (fun h => by have := lt_of_block hj6; omega)
    have g7 := (hs7.touch.block hb (lt_of_block g6) nh6).trans g6
    refine hK _ _ (HCO.out _ hj7 g7) ?_
    clear hK K'
    try simp only [Act.put, List.setIfInBounds_toArray, List.set_cons_succ, List.set_cons_zero]
    have D7 := Lib.hid hd7; have J7 := Lib.hid hj7; have NQ7 := Lib.hid nq7; have G7 := Lib.hid g7; have S7 := Lib.hid (S6.out.trans hs7)
    clear hd7 hj7 nq7 g7 hs7 hd6 hj6 nq6 nh6 g6 hs6 KFL S6 KW2 hd5 hj5 g5 hb35 hb5 hB0 HC0 HC1 HCO HCI KL S3 J3 D3 G3 NQ3
    repeat (refine mix_read (by rfl) ?_; apply Exists.intro; refine ⟨fun w9 hw9 => ?_, ?_⟩; (· go_simp; rfl); simp only [Act.put, List.setIfInBounds_toArray, List.set_cons_succ, List.set_cons_zero])
    refine mix_nil (NoPanic.normal ?_)
    obtain ⟨e4, st4⟩ := r4
    by_cases he4 : e4 = 0
    · subst he4
      have hR2 : R = (0, st4) := HR4.out
      have hJ2 : J = ⟨n, half, x, s.extract (s.size - x % 64) s.size, jb⟩ := by rw [HJ.out, hR2, if_neg (by simp)]
      have HJ3 := Lib.hid hJ2
      subst hR2
      clear hJ2 HJ HR HR1 HR4
      obtain ⟨m, hm⟩ : ∃ m, m = s.size - x % 64 := ⟨_, rfl⟩
      have hms : m ≤ s.size := by omega
      rw [← hm] at HJ3
      have hx8 : (x : Int) ≤ 800000 := by have := HX.out; omega
      have hxw : IntKind.i64.wrap ((from' : Int) + (s.size : Int)) = (x : Int) := by rw [show (from' : Int) + (s.size : Int) = (x : Int) by have := HX.out; omega]; exact IntWalk.i64_in _ (by omega)
      have hmw : IntKind.i64.wrap ((s.size : Int) - (x : Int).tmod 64) = (m : Int) := by
        rw [show (s.size : Int) - (x : Int).tmod 64 = (m : Int) by rw [Int.tmod_eq_emod_of_nonneg (by omega)]; have := HREM.out; have := HX.out; omega]
        exact IntWalk.i64_in _ (by omega)
      clear hm
      go_upto_region 9 with fail
      obtain ⟨C, hC⟩ : ∃ C : World → Prop, C = fun w9 => w9.heap[hb]? = some (.cells #[.int .i64 n, .int .i64 half, .int .i64 x] 92 (0, 0)) := ⟨_, rfl⟩
      have HCO := Lib.hid (show ∀ w9, w9.heap[hb]? = some (.cells #[.int .i64 n, .int .i64 half, .int .i64 x] 92 (0, 0)) → C w9 from fun w9 h => by rw [hC]; exact h)
      have HCI := Lib.hid (show ∀ w9, C w9 → w9.heap[hb]? = some (.cells #[.int .i64 n, .int .i64 half, .int .i64 x] 92 (0, 0)) from fun w9 h => by rw [hC] at h; exact h)
      clear hC
      have hB0 : Below w7.heap.size w7 w7.drew := (Below.refl _ _).drew
      refine wp_region_mix C [(0,true),(1,true),(2,true),(3,true),(4,true),(5,true),(6,true),(7,true),(8,true),(9,true),(10,true),(11,true),(12,true),(13,true),(14,true),(15,false),(16,true),(17,true),(18,false)] (by kernel_rfl) (by kernel_rfl) (HCO.out _ ((hB0.block hb (lt_of_block G7.out)).trans G7.out)) ?_
      generalize w7.drew = w8 at hB0 ⊢
      simp only [List.filterMap_cons, List.filterMap_nil, List.getElem?_cons_zero, List.getElem?_cons_succ, Option.map_some]
      refine mix_read (by rfl) ?_; apply Exists.intro; refine ⟨fun w9 hw9 => ?_, ?_⟩; (· go_simp; rfl); simp only [Act.put, List.setIfInBounds_toArray, List.set_cons_succ, List.set_cons_zero]
      refine mix_read (by rfl) ?_; apply Exists.intro; refine ⟨fun w9 hw9 => ?_, ?_⟩; (· go_simp; rfl); simp only [Act.put, List.setIfInBounds_toArray, List.set_cons_succ, List.set_cons_zero]
      refine mix_load_row 92 _ rfl (by rfl) hb (by rfl) 92 #[.int .i64 n, .int .i64 half, .int .i64 x] (0, 0) _ (fun w9 h9 => HCI.out w9 h9) Tryz.underlying92 rfl info_head ?_
      try simp only [Act.put, List.setIfInBounds_toArray, List.set_cons_succ, List.set_cons_zero]
      repeat (refine mix_read (by rfl) ?_; apply Exists.intro; refine ⟨fun w9 hw9 => ?_, ?_⟩; (· go_simp; rfl); simp only [Act.put, List.setIfInBounds_toArray, List.set_cons_succ, List.set_cons_zero])
      have J8 := Lib.hid (J7.out.below hB0)
      have c1 := J8.out.c1
      have c2 := J8.out.c2
      have c3 := J8.out.c3
      have f1 := free_at J8.out 1
      have f2 := free_at J8.out 2
      have f3 := free_at J8.out 3
      refine mix_step (by rfl) (fun K' hK => ?_)
      go_simp
      have hJ9 : JnAt (((w8.setCell ⟨q, 1, none⟩ (.int .i64 n)).setCell ⟨q, 2, none⟩ (.int .i64 half)).setCell ⟨q, 3, none⟩ (.int .i64 x)) q p ⟨n, half, x, jt, jb⟩ := set_at (i := 3) (set_at (i := 2) (set_at (i := 1) J8.out (.int .i64 n)) (.int .i64 half)) (.int .i64 x)
      have ht9 : Touch (fun k => k = q) w8 (((w8.setCell ⟨q, 1, none⟩ (.int .i64 n)).setCell ⟨q, 2, none⟩ (.int .i64 half)).setCell ⟨q, 3, none⟩ (.int .i64 x)) := (((Touch.refl (fun k => k = q) w8).setCell (F := fun k => k = q) rfl _).setCell rfl _).setCell rfl _
      have g9 := (ht9.block hb (Nat.lt_of_lt_of_le (lt_of_block G7.out) hB0.size) HHB.out.1).trans ((hB0.block hb (lt_of_block G7.out)).trans G7.out)
      refine hK _ _ (HCO.out _ g9) ?_
      clear hK K' c1 c2 c3 f1 f2 f3
      try simp only [Act.put, List.setIfInBounds_toArray, List.set_cons_succ, List.set_cons_zero]
      generalize ((w8.setCell ⟨q, 1, none⟩ (.int .i64 n)).setCell ⟨q, 2, none⟩ (.int .i64 half)).setCell ⟨q, 3, none⟩ (.int .i64 x) = w9 at hJ9 ht9 g9 ⊢
      repeat (refine mix_read (by rfl) ?_; apply Exists.intro; refine ⟨fun w9 hw9 => ?_, ?_⟩; (· go_simp; rfl); simp only [Act.put, List.setIfInBounds_toArray, List.set_cons_succ, List.set_cons_zero])
      have c4 := hJ9.c4
      have f4 := free_at hJ9 4
      refine mix_step (by rfl) (fun K' hK => ?_)
      go_simp
      have hJ10 : JnAt (w9.setCell ⟨q, 4, none⟩ (.string (s.extract m s.size))) q p ⟨n, half, x, s.extract m s.size, jb⟩ := set_at (i := 4) hJ9 (.string (s.extract m s.size))
      have ht10 := ht9.setCell (F := fun k => k = q) (b := q) (off := 4) rfl (.string (s.extract m s.size))
      have g10 := (ht10.block hb (Nat.lt_of_lt_of_le (lt_of_block G7.out) hB0.size) HHB.out.1).trans ((hB0.block hb (lt_of_block G7.out)).trans G7.out)
      refine hK _ _ (HCO.out _ g10) ?_
      clear hK K' c4 f4
      try simp only [Act.put, List.setIfInBounds_toArray, List.set_cons_succ, List.set_cons_zero]
      have hfin : SetPost w q p F (0, st4) J (.returned (.int .i64 0)) (w9.setCell ⟨q, 4, none⟩ (.string (s.extract m s.size))) := by
        have htt : Touch (fun k => k = q) w7 (w9.setCell ⟨q, 4, none⟩ (.string (s.extract m s.size))) := (Touch.ofBelow _ hB0).trans ht10
        refine ⟨rfl, F4, D7.out.touch htt (fun k hk e => NQ7.out (e ▸ hk)), ?_, NQ7.out, ((S7.out.more q).trans ⟨htt.mono (fun _ _ e => .inr e), fun k hk => .inl hk⟩)⟩
        rw [HJ3.out]
        exact hJ10
      have HFIN := Lib.hid hfin
      clear hfin hJ10 ht10 g10 hJ9 ht9 g9
      repeat (refine mix_read (by rfl) ?_; apply Exists.intro; refine ⟨fun w9 hw9 => ?_, ?_⟩; (· go_simp; rfl); simp only [Act.put, List.setIfInBounds_toArray, List.set_cons_succ, List.set_cons_zero])
      refine mix_nil (NoPanic.normal ?_)
      go_wp2_with fail
      go_ret
      exact HFIN.out
    · have hz := beq_no he4
      have hR2 : R = (e4, st4) := HR4.out
      have hJ2 : J = ⟨seq, jh, ju, jt, true⟩ := by rw [HJ.out, hR2, if_pos he4]
      subst hR2; subst hJ2
      have c5 := J7.out.c5
      have f5 := free_at J7.out 5
      go_wp2_with fail
      have hJn : JnAt (w7.setCell ⟨q, 5, none⟩ (.bool true)) q p ⟨seq, jh, ju, jt, true⟩ := set_at (i := 5) J7.out (.bool true)
      have ht : Touch (fun k => k = q) w7 (w7.setCell ⟨q, 5, none⟩ (.bool true)) := (Touch.refl (fun k => k = q) w7).setCell (F := fun k => k = q) rfl _
      go_ret
      exact ⟨rfl, F4, D7.out.touch ht (fun k hk e => NQ7.out (e ▸ hk)), hJn, NQ7.out, ((S7.out.more q).trans ⟨ht.mono (fun _ _ e => .inr e), fun k hk => .inl hk⟩)⟩
  · have hz := beq_no he
    have hR2 : R = (e2, st2) := by rw [HR.out, if_pos he]
    have hJ2 : J = ⟨seq, jh, ju, jt, true⟩ := by rw [HJ.out, hR2, if_pos he]
    subst hR2; subst hJ2
    have c5 := J3.out.c5
    have f5 := free_at J3.out 5
    go_wp2_with fail
    have hJn : JnAt (w3.setCell ⟨q, 5, none⟩ (.bool true)) q p ⟨seq, jh, ju, jt, true⟩ := set_at (i := 5) J3.out (.bool true)
    have ht : Touch (fun k => k = q) w3 (w3.setCell ⟨q, 5, none⟩ (.bool true)) := (Touch.refl (fun k => k = q) w3).setCell (F := fun k => k = q) rfl _
    go_ret
    exact ⟨rfl, F2, D3.out.touch ht (fun k hk e => NQ3.out.1 (e ▸ hk)), hJn, NQ3.out.1, ((S3.out.more q).trans ⟨ht.mono (fun _ _ e => .inr e), fun k hk => .inl hk⟩)⟩
end Go.Proofs.YtjjejkhekmpgcaaGreat
