/-
  Layer 6: acts; what is left when a call was done on a disk that may go down.
  Layer 6: acts that came in, opened.
-/
import Derived.Test.YtjjejkhekmpgcaaGreatMsJ
import Derived.Test.YtjjejkhekmpgcaaGreatMsI
import Derived.Lib.SmallJoins
namespace Go.Proofs.YtjjejkhekmpgcaaGreat
set_option maxRecDepth 4000
open Go.RowKit

/-- an act -/
structure SAct where
  lad : Option Addr
  lcap : Nat
  l : List Chg
  arm : Int
  kad : Option Addr
  kcap : Nat
  keep : List Int
  again : Bool
def sactv (a : SAct) : List Value := [.slice a.lad a.l.length a.lcap, .int .i64 a.arm, .slice a.kad a.keep.length a.kcap, .bool a.again]
def sactsAt (w : World) (ad : Option Addr) (l : List SAct) : Prop :=
  l = [] ∨ ∃ b off, ad = some ⟨b, off, none⟩ ∧ b < w.heap.size ∧ ∀ i (h : i < l.length), ∀ (j : Nat) (u : Value), (sactv l[i])[j]? = some u → w.cell? ⟨b, off + i * 4 + j, none⟩ = some u
structure sactOk (w : World) (a : SAct) : Prop where
  chgs : chgsAt w a.lad a.l
  lcap : a.l.length ≤ a.lcap
  lmax : a.lcap ≤ 9223372036854775807
  each : ∀ c ∈ a.l, chgOk c
  arm : wide5 a.arm
  keep : intsAt w a.kad a.keep
  kmax : a.keep.length ≤ 9223372036854775807
  kint : ∀ x ∈ a.keep, wide5 x
theorem info_act6 : (Tryz.prog.info? 65).map (·.size) = some 4 := by kernel_rfl
/-- an act of our own -/
def SActO (w : World) (ab : Nat) (a : SAct) (G : Nat → Prop) : Prop := w.heap[ab]? = some (.cells (sactv a).toArray 65 (0, 0)) ∧ ¬ G ab
theorem SActO.step {w w' : World} {ab : Nat} {a : SAct} {G G' : Nat → Prop} (h : SActO w ab a G) (hs : Stp G w G' w') : SActO w' ab a G' := by
  obtain ⟨h1, h2⟩ := h
  have hl := lt_of_block h1
  refine ⟨(hs.touch.block ab hl h2).trans h1, fun hf => ?_⟩
  rcases hs.new ab hf with h | h
  · exact h2 h
  · omega
theorem SActO.less {w : World} {ab : Nat} {a : SAct} {G G' : Nat → Prop} (h : SActO w ab a G) (hs : ∀ k, G' k → G k) : SActO w ab a G' := ⟨h.1, fun hf => h.2 (hs ab hf)⟩
theorem KvO.less {w : World} {ad : Option Addr} {l : Kv} {G G' : Nat → Prop} (h : KvO w ad l G) (hs : ∀ k, G' k → G k) : KvO w ad l G' := by
  rcases h with h | ⟨b, off, h1, h2, h3, h4⟩
  · exact .inl h
  · exact .inr ⟨b, off, h1, h2, fun hf => h3 (hs b hf), h4⟩
theorem KvO.more {w w' : World} {ad : Option Addr} {l : Kv} {F G : Nat → Prop} (h : KvO w ad l F) (hb : Below w.heap.size w w') (hn : ∀ k, G k → F k ∨ w.heap.size ≤ k) : KvO w' ad l G :=
  h.step ⟨Touch.ofBelow F hb, hn⟩
/-- what the law wants Do to answer -/
def wantS (n : Nat) (M : Kv) (l : List Chg) (qt : Int) : Int :=
  if checkS M l qt false ≠ 0 then checkS M l qt false else if sizeN n * 64 < (allR (recsM (afterM M l))).length then 10 else 0
theorem checkS_no12 (M : Kv) (l : List Chg) (qt : Int) : checkS M l qt false ≠ 12 := by
  unfold checkS
  rw [if_neg (by simp)]
  split
  · omega
  · split
    · omega
    · split <;> omega
theorem wantS_no12 (n : Nat) (M : Kv) (l : List Chg) (qt : Int) : wantS n M l qt ≠ 12 := by
  unfold wantS
  split
  · exact checkS_no12 M l qt
  · split <;> omega
theorem wantS_zero {n : Nat} {M : Kv} {l : List Chg} {qt : Int} (h : wantS n M l qt = 0) : checkS M l qt false = 0 ∧ (allR (recsM (afterM M l))).length ≤ sizeN n * 64 := by
  unfold wantS at h
  split at h
  · rename_i h1; exact absurd h h1
  · rename_i h1
    split at h
    · cases h
    · exact ⟨by omega, by omega⟩
theorem doS_pend {st : Dk} {n sq half : Nat} {rs : List ByteArray} (on : OnDisk st n sq half rs) (hsq : sq < 9223372036854775807) (M : Kv) (qt : Int) (l : List Chg) : pendMax (doS st (jOf sq half rs) M qt false l).2.1.S 70000 := by
  have h0 := calm_pend on.calm
  have hj : pendMax (doJ st (jOf sq half rs) l (recsM (afterM M l))).1.2.S 70000 := by
    unfold doJ
    split
    · exact pendMax_le (rewriteD_pend h0 on.calm.ok _ _) (by omega)
    · unfold putJ
      split
      · exact pendMax_le (appendD_pend h0 on.calm.ok _ (jOf_tail sq half rs) _) (by omega)
      · exact pendMax_le h0 (by omega)
  unfold doS
  split
  · exact pendMax_le h0 (by omega)
  · split
    · exact pendMax_le h0 (by omega)
    · split
      · exact hj
      · exact hj
/-- a disk that may have gone down, what was kept, and what might be -/
structure SDown (w wx : World) (p : Nat) (F : Nat → Prop) (st : Dk) (n sqB : Nat) (M Mn : Kv) (adi adn : Option Addr) : Prop where
  low : Below w.heap.size w wx
  disk : Disk wx p F st
  hF : ∀ k, F k → w.heap.size ≤ k
  pend : pendMax st.S 70000
  shows : ∀ keep : List Int, ∃ sq2 half2 got Mg, OnDisk (crashD st keep) n sq2 half2 got ∧ openM got [] = some Mg ∧ (Mg = M ∨ Mg = Mn) ∧ sq2 ≤ sqB
  okM : KvOk M
  okN : KvOk Mn
  lowM : bytesM M ≤ 1048576
  lowN : bytesM Mn ≤ 1048576
  is : KvO wx adi M F
  nx : KvO wx adn Mn F
theorem SInv.down {w wr : World} {p q jq b : Nat} {F : Nat → Prop} {st : Dk} {n sq half : Nat} {rs : List ByteArray} {M : Kv} {qt : Int} {ad : Option Addr} (h : SInv w wr p q jq b F st n sq half rs M qt ad) {sqB : Nat} (hs : sq ≤ sqB) : SDown w wr p F st n sqB M M ad ad :=
  ⟨h.law.low, h.law.sto.disk, fun k hk => h.law.hF k (.inl hk), pendMax_le (calm_pend h.on.calm) (by omega), fun keep => ⟨sq, half, rs, M, h.on.crash st keep rfl, h.op, .inl rfl, hs⟩, h.ok, h.ok, h.low, h.low, h.is.less (fun k hk => .inl hk), h.is.less (fun k hk => .inl hk)⟩
/-- what is there when Do was done and the disk was disarmed -/
def DoneS (w wx : World) (p q jq b n sq : Nat) (M : Kv) (l : List Chg) (qt : Int) (adi adn : Option Addr) (Mn : Kv) (F : Nat → Prop) (st : Dk) (g : Int) : Prop :=
  (wantS n M l qt ≠ 0 ∧ g = wantS n M l qt ∧ ∃ half rs, SInv w wx p q jq b F st n sq half rs M qt adi ∧ st.armed = 0) ∨
    (wantS n M l qt = 0 ∧ g = 0 ∧ ∃ sq' half' rs', SInv w wx p q jq b F st n sq' half' rs' Mn qt adn ∧ st.armed = 0 ∧ sq' ≤ sq + 1) ∨
    (wantS n M l qt = 0 ∧ g = 12 ∧ SDown w wx p F st n (sq + 1) M Mn adi adn ∧ ∃ j, wx.heap[q]? = some (.cells (stv j b (bytesM M) qt true) 76 (0, 0)))
theorem do_want {st : Dk} {n sq half : Nat} {rs : List ByteArray} {M : Kv} {qt : Int} (on : OnDisk st n sq half rs) (op : openM rs [] = some M) (ok : KvOk M) (hsq : sq < 9223372036854775807) (hz : sizeN n * 64 ≤ 65536) (l : List Chg) :
    (wantS n M l qt ≠ 0 ∧ doS st (jOf sq half rs) M qt false l = (wantS n M l qt, st, jOf sq half rs, M, false)) ∨ (wantS n M l qt = 0 ∧ DoOut st n sq half rs M (afterM M l) (doS st (jOf sq half rs) M qt false l)) := by
  by_cases hc : checkS M l qt false = 0
  · obtain ⟨h1, h2⟩ := do_out on op ok hsq hc hz
    by_cases hf : sizeN n * 64 < (allR (recsM (afterM M l))).length
    · have hw : wantS n M l qt = 10 := by unfold wantS; rw [if_neg (by simpa using hc), if_pos hf]
      rw [hw]
      exact .inl ⟨by omega, h1 hf⟩
    · have hw : wantS n M l qt = 0 := by unfold wantS; rw [if_neg (by simpa using hc), if_neg hf]
      exact .inr ⟨hw, h2 (by omega)⟩
  · have hw : wantS n M l qt = checkS M l qt false := by unfold wantS; rw [if_pos hc]
    rw [hw]
    refine .inl ⟨hc, ?_⟩
    unfold doS
    rw [if_pos hc]
theorem done_of {w w2 : World} {p q jq b : Nat} {F3 : Nat → Prop} {st0 : Dk} {n sq half : Nat} {rs : List ByteArray} {M : Kv} {qt : Int} {adi adn : Option Addr} (on : OnDisk st0 n sq half rs) (op : openM rs [] = some M) (ok : KvOk M) (low : bytesM M ≤ 1048576)
    (hsq : sq < 9223372036854775807) (hz : sizeN n * 64 ≤ 65536) (hqt : qt ≤ 1048576) (l : List Chg) (Mn : Kv) (hMn : wantS n M l qt = 0 → Mn = afterM M l) (R : Int × Dk × Jn × Kv × Bool) (hR : R = doS st0 (jOf sq half rs) M qt false l)
    (h : SLaw w w2 p F3 q jq b (armD R.2.1 0) R.2.2.1 R.2.2.2.1 qt R.2.2.2.2) (his : KvO w2 adi M (stoF q jq b F3)) (hnx : KvO w2 adn Mn (stoF q jq b F3)) :
    DoneS w w2 p q jq b n sq M l qt adi adn Mn F3 (armD R.2.1 0) R.1 := by
  have hpd := doS_pend on hsq M qt l
  rw [← hR] at hpd
  rcases do_want (qt := qt) on op ok hsq hz l with ⟨h1, h2⟩ | ⟨h1, h2⟩
  · rw [← hR] at h2
    subst h2
    exact .inl ⟨h1, rfl, half, rs, ⟨h, on.congr rfl rfl, op, ok, low, his⟩, rfl⟩
  · rw [← hR] at h2
    have hck := (wantS_zero h1).1
    have hmn := hMn h1
    subst hmn
    have hok' := ok_after ok (checkS_zero hck).2.2.2
    have hlo' := check_bytes hck 1048576 low (by omega)
    obtain ⟨a, st1, j1, M1, br1⟩ := R
    rcases h2 with ⟨e1, ⟨sq', half', rs', e2, e3, e4, e5⟩, e6, e7, _⟩ | ⟨e1, _, e3, e4, e5, e6, e7⟩
    · have e1 : a = 0 := e1
      have e3 : j1 = jOf sq' half' rs' := e3
      have e6 : M1 = afterM M l := e6
      have e7 : br1 = false := e7
      subst e1; subst e3; subst e6; subst e7
      exact .inr (.inl ⟨h1, rfl, sq', half', rs', ⟨h, e2.congr rfl rfl, e4, hok', hlo', hnx⟩, rfl, e5⟩)
    · have e1 : a = 12 := e1
      have e3 : M1 = M := e3
      have e4 : br1 = true := e4
      subst e1; subst e3; subst e4
      refine .inr (.inr ⟨h1, rfl, ⟨h.low, h.sto.disk, fun k hk => h.hF k (.inl hk), hpd, fun keep => ?_, ok, hok', low, hlo', his.less (fun k hk => .inl hk), hnx.less (fun k hk => .inl hk)⟩, _, h.sto.cells⟩)
      obtain ⟨sq2, half2, got, c1, c2, c3⟩ := e7 (armD st1 0) keep rfl
      rcases c2 with c2 | c2
      · exact ⟨sq2, half2, got, _, c1, c2, .inl rfl, c3⟩
      · exact ⟨sq2, half2, got, _, c1, c2, .inr rfl, c3⟩
theorem SLaw.armed {w wr : World} {p q jq b : Nat} {F : Nat → Prop} {st : Dk} {j : Jn} {M : Kv} {qt : Int} {br : Bool} (h : SLaw w wr p F q jq b st j M qt br) {st' : Dk} {w' : World} (hd : Disk w' p F st') (ht : Touch (fun k => k = p) wr w') :
    SLaw w w' p F q jq b st' j M qt br ∧ Stp (stoF q jq b F) wr (stoF q jq b F) w' := by
  have hown := h.sto.disk.own
  have hs : Stp (stoF q jq b F) wr (stoF q jq b F) w' := ⟨ht.mono (fun k _ e => by rw [e]; exact .inl hown), fun k hk => .inl hk⟩
  have hp1 : ¬ q = p := fun e => h.sto.nq (e ▸ hown)
  have hp2 : ¬ jq = p := fun e => h.sto.nj (e ▸ hown)
  have hp3 : ¬ b = p := fun e => h.sto.nb (e ▸ hown)
  obtain ⟨h3, h4⟩ := hs.below h.low h.low.size h.hF
  exact ⟨⟨h3, ⟨hd, h.sto.jn.touch ht hp2, (ht.block q h.sto.lt.1 hp1).trans h.sto.cells, MapL.same h.sto.map (ht.block b h.sto.lt.2.2 hp3), h.sto.nj, h.sto.nq, h.sto.nb, h.sto.njq, h.sto.njb, h.sto.nqb⟩, h4⟩, hs⟩
/-- a store is opened: what is its own -/
theorem SLaw.opened2 {w wr w' : World} {p : Nat} {F : Nat → Prop} {st : Dk} {M : Kv} {qt : Int} {e : Ending} {n sq half : Nat} {rs : List ByteArray} (on : OnDisk st n sq half rs) (hlow : Below w.heap.size w wr) (hF : ∀ k, F k → w.heap.size ≤ k) (hp : SOpenPost p F wr st qt (some M) e w') :
    ∃ q jq b, e = .returned (.tuple #[.pointer (some ⟨q, 0, none⟩), .int .i64 0]) ∧ SLaw w w' p F q jq b st (jOf sq half rs) M qt false ∧ KvOk M ∧ Below wr.heap.size wr w' ∧ ∀ k, stoF q jq b F k → F k ∨ wr.heap.size ≤ k := by
  obtain ⟨h1, q, jq, b, h2, h3, h4, h5, h6, h7⟩ := hp
  rw [on.opens.2.2.1] at h6
  have hs := hlow.size
  refine ⟨q, jq, b, h2, ⟨hlow.trans (h1.mono hs), h6, fun k hk => ?_⟩, h7, h1, fun k hk => ?_⟩
  · rcases hk with hk | rfl | rfl | rfl
    · exact hF k hk
    · omega
    · omega
    · omega
  · rcases hk with hk | rfl | rfl | rfl
    · exact .inl hk
    · exact .inr h3
    · exact .inr h4
    · exact .inr h5
theorem skeep_of {w : World} {a : SAct} (h : sactOk w a) {F : Nat → Prop} (hF : ∀ k, F k → w.heap.size ≤ k) : a.keep = [] ∨ ∀ b off, a.kad = some ⟨b, off, none⟩ → ¬ F b := by
  rcases h.keep with hk | ⟨b, off, hk, hb, _⟩
  · exact .inl hk
  · refine .inr (fun b2 off2 e hf => ?_)
    rw [hk] at e
    cases e
    have := hF _ hf
    omega
end Go.Proofs.YtjjejkhekmpgcaaGreat

namespace Go.Proofs.YtjjejkhekmpgcaaGreat
set_option maxRecDepth 4000
open Go.ChangeShapes Go.WideShapes Go.ChangeAt Go.RowKit Go.Deep
section
variable {H : Type} {enc : TypeId × Value → H} {w : World} {base : Nat} {spare : Nat → Bool} {held : Bool}
theorem sx_cells_act : Tryz.prog.cellsOf 65 = 4 := by kernel_rfl
theorem sx_cells_int : Tryz.prog.cellsOf 3 = 1 := by kernel_rfl
theorem sx_cells_ints : Tryz.prog.cellsOf 63 = 1 := by kernel_rfl
instance : Inhabited SAct := ⟨⟨none, 0, [], 0, none, 0, [], false⟩⟩
theorem trod_ints {fuel : Nat} {v : Value} {x : DataW H × List MemPlace} (hf : DataW.trod enc Tryz.prog w base spare held fuel 63 [v] = some x) :
    ∃ ad cap, ∃ l : List Int, v = .slice ad l.length cap ∧ intsAt w ad l ∧ l.length ≤ cap ∧ cap ≤ 9223372036854775807 ∧ ∀ x ∈ l, -9223372036854775808 ≤ x ∧ x ≤ 9223372036854775807 := by
  rcases open_slice Tryz.underlying63 hf with ⟨e, _⟩ | ⟨a, len, cap, m, n, D, Pl, e, _, hl, hm, hmm, _, hx⟩
  · simp at e
    subst e
    exact ⟨none, 0, [], rfl, .inl rfl, by simp, by simp, by simp⟩
  · simp at e
    subst e
    have hlm : len ≤ m := by rw [hmm]; split <;> omega
    have each : ∀ i, i < m → ∃ f : Int, w.cell? (a.add i) = some (.int .i64 f) ∧ -9223372036854775808 ≤ f ∧ f ≤ 9223372036854775807 := by
      intro i hi
      obtain ⟨cs', h1, h2⟩ := hx i hi
      rw [sx_cells_int] at h1
      obtain ⟨_, hlen, hcell⟩ := World.cells?_some h1
      match cs', hlen with
      | [v0], _ =>
        obtain ⟨y, e0, _, k0⟩ := DataW.trod_int Tryz.underlying3 h2
        simp only [List.cons.injEq, and_true] at e0
        have f0 := (Bool.and_eq_true _ _).mp k0
        refine ⟨y, ?_, of_decide_eq_true f0.1, of_decide_eq_true f0.2⟩
        have c := hcell 0 (by simp)
        rw [add_add] at c
        simp at c
        rw [← e0]
        exact c
    obtain ⟨F, hF⟩ := choose_lt each
    refine ⟨some a, cap, (List.range len).map F, by simp, ?_, by simpa using hl, by unfold maxLen at hm; omega, ?_⟩
    · rcases Nat.eq_zero_or_pos len with rfl | hp
      · exact .inl rfl
      obtain ⟨b, off, spot⟩ := a
      have c0 := (hF 0 (by omega)).1
      have hspot : spot = none := by simpa [Addr.add] using World.cell?_spot c0
      subst hspot
      simp only [so_add_none] at hF c0
      refine .inr ⟨b, off, rfl, so_block_of_cell c0, fun i hi => ?_⟩
      have hi' : i < len := by simpa using hi
      simp only [List.getElem_map, List.getElem_range]
      exact (hF i (by omega)).1
    · intro y hy
      obtain ⟨i, hi, rfl⟩ := List.mem_map.1 hy
      exact (hF i (by have := List.mem_range.1 hi; omega)).2
theorem open_sacts {r : Reach} {b0 : Nat} {v : Value} {d : DataW H} {ps : List MemPlace} (hv : Value.okWide Tryz.prog w r b0 62 v) (h : DataW.Trod enc Tryz.prog w base spare held 62 v d ps) :
    ∃ ad cap, ∃ l : List SAct, v = .slice ad l.length cap ∧ sactsAt w ad l ∧ l.length ≤ cap ∧ cap ≤ 9223372036854775807 ∧ ∀ a ∈ l, sactOk w a := by
  obtain ⟨a0, len0, cap0, rfl⟩ := okWide_slice Tryz.underlying62 hv
  obtain ⟨fuel, hf⟩ := h
  simp only [Value.cells] at hf
  rcases open_slice Tryz.underlying62 hf with ⟨e, _⟩ | ⟨a, len, cap, m, n, D, Pl, e, _, hl, hm, hmm, _, hx⟩
  · simp at e
    obtain ⟨rfl, rfl, rfl⟩ := e
    exact ⟨none, 0, [], rfl, .inl rfl, by simp, by simp, by simp⟩
  · simp at e
    obtain ⟨rfl, rfl, rfl⟩ := e
    have hlm : len0 ≤ m := by rw [hmm]; split <;> omega
    have each : ∀ i, i < m → ∃ f : SAct, (∀ (j : Nat) (u : Value), (sactv f)[j]? = some u → w.cell? (a.add (i * 4 + j)) = some u) ∧ sactOk w f := by
      intro i hi
      obtain ⟨cs', h1, h2⟩ := hx i hi
      rw [sx_cells_act] at h1
      obtain ⟨_, hlen, hcell⟩ := World.cells?_some h1
      obtain ⟨y0, y1, y2, y3, n', _, _, g0, g1, g2, g3⟩ := Go.Joins.trod_struct4 Tryz.underlying65 h2
      match cs', hlen with
      | [v0, v1, v2, v3], _ =>
        simp [sx_cells_int, sx_cells_chgs, sx_cells_ints, sx_cells_bool] at g0 g1 g2 g3
        obtain ⟨adl, capl, ll, e0, hl1, hl2, hl3, hl4⟩ := trod_chgs g0
        obtain ⟨x1, e1, _, k1⟩ := DataW.trod_int Tryz.underlying3 g1
        obtain ⟨adk, capk, lk, e2, hk1, hk2, hk3, hk4⟩ := trod_ints g2
        obtain ⟨x3, e3, _⟩ := DataW.trod_bool Tryz.underlying4 g3
        simp only [List.cons.injEq, and_true] at e1 e3
        have f1 := (Bool.and_eq_true _ _).mp k1
        refine ⟨⟨adl, capl, ll, x1, adk, capk, lk, x3⟩, fun j u hu => ?_, ⟨hl1, hl2, hl3, hl4, ⟨of_decide_eq_true f1.1, of_decide_eq_true f1.2⟩, hk1, Nat.le_trans hk2 hk3, fun x hx => hk4 x hx⟩⟩
        have hu' : [Value.slice adl ll.length capl, .int .i64 x1, .slice adk lk.length capk, .bool x3][j]? = some u := hu
        match j, hu' with
        | 0, hu =>
          have c := hcell 0 (by omega)
          rw [add_add] at c
          simp at c hu
          rw [← hu, ← e0]; exact c
        | 1, hu =>
          have c := hcell 1 (by omega)
          rw [add_add] at c
          simp at c hu
          rw [← hu, ← e1]; exact c
        | 2, hu =>
          have c := hcell 2 (by omega)
          rw [add_add] at c
          simp at c hu
          rw [← hu, ← e2]; exact c
        | 3, hu =>
          have c := hcell 3 (by omega)
          rw [add_add] at c
          simp at c hu
          rw [← hu, ← e3]; exact c
        | j + 4, hu => simp at hu
    obtain ⟨F, hF⟩ := choose_lt each
    refine ⟨some a, cap0, (List.range len0).map F, by simp, ?_, by simpa using hl, by unfold maxLen at hm; omega, ?_⟩
    · rcases Nat.eq_zero_or_pos len0 with rfl | hp
      · exact .inl rfl
      obtain ⟨b, off, spot⟩ := a
      have c0 := (hF 0 (by omega)).1 0 _ rfl
      have hspot : spot = none := by simpa [Addr.add] using World.cell?_spot c0
      subst hspot
      simp only [so_add_none] at hF c0
      refine .inr ⟨b, off, rfl, so_block_of_cell c0, fun i hi j u hu => ?_⟩
      have hi' : i < len0 := by simpa using hi
      simp only [List.getElem_map, List.getElem_range] at hu
      rw [Nat.add_assoc]
      exact (hF i (by omega)).1 j u hu
    · intro f hf
      obtain ⟨i, hi, rfl⟩ := List.mem_map.1 hf
      exact (hF i (by have := List.mem_range.1 hi; omega)).2
end
end Go.Proofs.YtjjejkhekmpgcaaGreat
