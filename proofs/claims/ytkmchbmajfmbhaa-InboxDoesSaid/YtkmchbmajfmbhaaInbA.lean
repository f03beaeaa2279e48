/-
  A box in memory; contracts of Put and Get.
-/
import Derived.Test.YtkmchbmajfmbhaaOwn
import Derived.Conc.LoneSelect
import Derived.Conc.LoneSelectN
import Derived.Laws.Rows
namespace Go.Proofs.Ytkmchbmajfmbhaa
open Go.Conc Go.RowKit

/-- texts as cells -/
def sv (l : List ByteArray) : Array Value := (l.map Value.string).toArray
theorem sv_size (l : List ByteArray) : (sv l).size = l.length := by simp [sv]
theorem sv_push (l : List ByteArray) (x : ByteArray) : (sv l).push (.string x) = sv (l ++ [x]) := by simp [sv]
theorem sv_tail (l : List ByteArray) : (sv l).extract 1 (sv l).size = sv l.tail := by
  cases l with
  | nil => rfl
  | cons a r => apply Array.ext'; simp [sv, List.take_of_length_le]

/-- the box at p, its channel at c: room places, and these texts in them -/
def BoxAt (w : World) (p c room : Nat) (l : List ByteArray) : Prop :=
  p ≠ c ∧ w.heap[p]? = some (.cells #[.chan (some c)] 48 (0, 0)) ∧ (l.length ≤ room ∧ room ≤ 256) ∧ ∃ s r, w.heap[c]? = some (.chan room (sv l) false s r false)

theorem BoxAt.cell {w : World} {p c room : Nat} {l : List ByteArray} (h : BoxAt w p c room l) : w.cell? ⟨p, 0, none⟩ = some (.chan (some c)) := by
  rw [cell_of_row w p 0 _ _ _ h.2.1]
  rfl
theorem setChan_other (w : World) (c c' cap : Nat) (buf : Array Value) (closed : Bool) (s r : Nat) (tm : Bool) (h : c ≠ c') : (w.setChan c cap buf closed s r tm).heap[c']? = w.heap[c']? := by
  simp [World.setChan, Array.getElem?_setIfInBounds_ne h]
theorem setChan_cell (w : World) (c cap : Nat) (buf : Array Value) (closed : Bool) (s r : Nat) (tm : Bool) (p i : Nat) (h : c ≠ p) : (w.setChan c cap buf closed s r tm).cell? ⟨p, i, none⟩ = w.cell? ⟨p, i, none⟩ := by
  unfold World.cell?
  rw [setChan_other _ _ _ _ _ _ _ _ _ h]
theorem grownBy_setChan (w : World) (c cap : Nat) (buf : Array Value) (closed : Bool) (s r : Nat) (tm : Bool) : w.grownBy (w.setChan c cap buf closed s r tm) (some c) :=
  ⟨rfl, rfl, rfl, Nat.le_of_eq (size_setChan _ _ _ _ _ _ _ _).symm, fun k _ hk => setChan_other _ _ _ _ _ _ _ _ _ (fun e => hk (by rw [e]))⟩
theorem boxAt_set {w : World} {p c room : Nat} {l m : List ByteArray} (h : BoxAt w p c room l) (s r : Nat) (hm : m.length ≤ room) : BoxAt (w.setChan c room (sv m) false s r false) p c room m := by
  obtain ⟨h0, h1, ⟨_, h5⟩, s', r', h3⟩ := h
  refine ⟨h0, (setChan_other _ _ _ _ _ _ _ _ _ (fun e => h0 e.symm)).trans h1, ⟨hm, h5⟩, s, r, heap_setChan _ _ _ _ _ _ _ _ ?_⟩
  rcases Nat.lt_or_ge c w.heap.size with h | h
  · exact h
  · rw [Array.getElem?_eq_none h] at h3; cases h3










set_option maxRecDepth 100000 in
theorem put_room (p c room : Nat) (l : List ByteArray) (x : ByteArray) (w : World) (h : BoxAt w p c room l) (hr : l.length < room) :
    Calls Try.prog 8 #[.pointer (some ⟨p, 0, none⟩), .string x] w fun e w' => e = .returned (.bool true) ∧ w.grownBy w' (some c) ∧ BoxAt w' p c room (l ++ [x]) := by
  obtain ⟨h0, h1, h5, s, r, h3⟩ := id h
  have h2 := h.cell
  refine calls_of_loneTo fun cs => ?_
  have e : Frame.enter Try.prog 8 #[.pointer (some ⟨p, 0, none⟩), .string x] .normal = (base 8).at ⟨#[.pointer (some ⟨p, 0, none⟩), .string x, undef, undef, undef, undef, undef, undef, undef, undef, undef, undef, undef, undef, undef], []⟩ [.code (Try.f8.body.getD .skip)] := by
    simp [Frame.enter, Frame.at, Try.func8, base, Try.f8]
  rw [e]
  refine LoneTo.goes (n := 60) ?_
  simp only [Try.f8, Option.getD_some]
  s_c stepG_seq
  s_reg
  s_op
  s_c stepG_region_end
  s_c stepG_seq
  s_c stepG_seq
  s_reg
  s_op
  s_op
  s_c stepG_region_end
  s_cond false
  s_c stepG_skip
  s_c stepG_seq
  s_c stepG_seq
  s_reg
  s_op
  s_op
  s_op
  s_op
  s_c stepG_region_end
  s_reg
  s_op
  s_c stepG_region_end
  s_c stepG_seq
  s_reg
  s_stop
  refine LoneTo.step (step_lone_select_send_room (stepG_comm (cases := #[scase c (.string x) (.string ⟨#[]⟩)]) (blocking := false) (shape := .select) (w' := w) rfl rfl (by decide) (by simp [go_sem, execOp, rcase, scase, Act.eval])) h3 (by rw [sv_size]; exact hr)) ?_
  rw [Frame.finish_at]
  walk_nrm
  refine LoneTo.goes (n := 60) ?_
  s_op
  s_op
  s_c stepG_region_end
  s_c stepG_block
  s_cond true
  s_c stepG_seq
  s_reg
  s_op
  s_c stepG_region_end
  s_c stepG_ret'
  s_stop
  rw [sv_push]
  exact LoneTo.done ⟨.returned (.bool true), _, rfl, ⟨rfl, grownBy_setChan _ _ _ _ _ _ _ _, boxAt_set h _ _ (by simp; omega)⟩, rfl, rfl, rfl, rfl, _, Try.func8, by simp [results, Try.f8, Frame.at]⟩

set_option maxRecDepth 100000 in
theorem put_full (p c room : Nat) (l : List ByteArray) (x : ByteArray) (w : World) (h : BoxAt w p c room l) (hr : room ≤ l.length) :
    Calls Try.prog 8 #[.pointer (some ⟨p, 0, none⟩), .string x] w fun e w' => e = .returned (.bool false) ∧ w' = w := by
  obtain ⟨h0, h1, h5, s, r, h3⟩ := id h
  have h2 := h.cell
  refine calls_of_loneTo fun cs => ?_
  have e : Frame.enter Try.prog 8 #[.pointer (some ⟨p, 0, none⟩), .string x] .normal = (base 8).at ⟨#[.pointer (some ⟨p, 0, none⟩), .string x, undef, undef, undef, undef, undef, undef, undef, undef, undef, undef, undef, undef, undef], []⟩ [.code (Try.f8.body.getD .skip)] := by
    simp [Frame.enter, Frame.at, Try.func8, base, Try.f8]
  rw [e]
  refine LoneTo.goes (n := 60) ?_
  simp only [Try.f8, Option.getD_some]
  s_c stepG_seq
  s_reg
  s_op
  s_c stepG_region_end
  s_c stepG_seq
  s_c stepG_seq
  s_reg
  s_op
  s_op
  s_c stepG_region_end
  s_cond false
  s_c stepG_skip
  s_c stepG_seq
  s_c stepG_seq
  s_reg
  s_op
  s_op
  s_op
  s_op
  s_c stepG_region_end
  s_reg
  s_op
  s_c stepG_region_end
  s_c stepG_seq
  s_reg
  s_stop
  refine LoneTo.step (step_lone_select_send_full (stepG_comm (cases := #[scase c (.string x) (.string ⟨#[]⟩)]) (blocking := false) (shape := .select) (w' := w) rfl rfl (by decide) (by simp [go_sem, execOp, rcase, scase, Act.eval])) h3 (by rw [sv_size]; exact hr)) ?_
  rw [Frame.finish_at]
  walk_nrm
  refine LoneTo.goes (n := 60) ?_
  s_op
  s_op
  s_c stepG_region_end
  s_c stepG_block
  s_cond false
  s_c stepG_seq
  s_reg
  s_op
  s_c stepG_region_end
  s_c stepG_ret'
  s_stop
  exact LoneTo.done ⟨.returned (.bool false), _, rfl, ⟨rfl, rfl⟩, rfl, rfl, rfl, rfl, _, Try.func8, by simp [results, Try.f8, Frame.at]⟩

set_option maxRecDepth 100000 in
theorem get_some (p c room : Nat) (x : ByteArray) (l : List ByteArray) (w : World) (h : BoxAt w p c room (x :: l)) :
    Calls Try.prog 9 #[.pointer (some ⟨p, 0, none⟩)] w fun e w' => e = .returned (.tuple #[.string x, .bool true]) ∧ w.grownBy w' (some c) ∧ BoxAt w' p c room l := by
  obtain ⟨h0, h1, h5, s, r, h3⟩ := id h
  have h2 := h.cell
  refine calls_of_loneTo fun cs => ?_
  have e : Frame.enter Try.prog 9 #[.pointer (some ⟨p, 0, none⟩)] .normal = (base 9).at ⟨#[.pointer (some ⟨p, 0, none⟩), undef, undef, undef, undef, undef, undef, undef, undef, undef, undef, undef, undef, undef, undef, undef], []⟩ [.code (Try.f9.body.getD .skip)] := by
    simp [Frame.enter, Frame.at, Try.func9, base, Try.f9]
  rw [e]
  refine LoneTo.goes (n := 60) ?_
  simp only [Try.f9, Option.getD_some]
  s_c stepG_seq
  s_reg
  s_op
  s_op
  s_c stepG_region_end
  s_c stepG_seq
  s_c stepG_seq
  s_reg
  s_op
  s_op
  s_c stepG_region_end
  s_cond false
  s_c stepG_skip
  s_c stepG_seq
  s_reg
  s_op
  s_op
  s_op
  s_op
  s_c stepG_region_end
  s_c stepG_seq
  s_reg
  s_stop
  refine LoneTo.step (step_lone_select_recv_buf (stepG_comm (cases := #[rcase c (.string ⟨#[]⟩)]) (blocking := false) (shape := .select) (w' := w) rfl rfl (by decide) (by simp [go_sem, execOp, rcase, scase, Act.eval])) h3 (by simp [sv])) ?_
  rw [Frame.finish_at]
  walk_nrm
  refine LoneTo.goes (n := 60) ?_
  s_op
  s_op
  s_c stepG_region_end
  s_c stepG_block
  s_cond true
  s_c stepG_seq
  s_reg
  s_op
  s_op
  s_c stepG_region_end
  s_c stepG_seq
  s_reg
  s_op
  s_op
  s_op
  s_c stepG_region_end
  s_c stepG_ret'
  s_stop
  rw [sv_tail]
  exact LoneTo.done ⟨.returned (.tuple #[.string x, .bool true]), _, rfl, ⟨rfl, grownBy_setChan _ _ _ _ _ _ _ _, boxAt_set h _ _ (by have := h5.1; simp only [List.length_cons, List.tail_cons] at this ⊢; omega)⟩, rfl, rfl, rfl, rfl, _, Try.func9, by simp [results, Try.f9, Frame.at, sv]⟩

set_option maxRecDepth 100000 in
theorem get_none (p c room : Nat) (w : World) (h : BoxAt w p c room []) :
    Calls Try.prog 9 #[.pointer (some ⟨p, 0, none⟩)] w fun e w' => e = .returned (.tuple #[.string ⟨#[]⟩, .bool false]) ∧ w' = w := by
  obtain ⟨h0, h1, h5, s, r, h3⟩ := id h
  have h2 := h.cell
  refine calls_of_loneTo fun cs => ?_
  have e : Frame.enter Try.prog 9 #[.pointer (some ⟨p, 0, none⟩)] .normal = (base 9).at ⟨#[.pointer (some ⟨p, 0, none⟩), undef, undef, undef, undef, undef, undef, undef, undef, undef, undef, undef, undef, undef, undef, undef], []⟩ [.code (Try.f9.body.getD .skip)] := by
    simp [Frame.enter, Frame.at, Try.func9, base, Try.f9]
  rw [e]
  refine LoneTo.goes (n := 60) ?_
  simp only [Try.f9, Option.getD_some]
  s_c stepG_seq
  s_reg
  s_op
  s_op
  s_c stepG_region_end
  s_c stepG_seq
  s_c stepG_seq
  s_reg
  s_op
  s_op
  s_c stepG_region_end
  s_cond false
  s_c stepG_skip
  s_c stepG_seq
  s_reg
  s_op
  s_op
  s_op
  s_op
  s_c stepG_region_end
  s_c stepG_seq
  s_reg
  s_stop
  refine LoneTo.step (step_lone_select_default (stepG_comm (cases := #[rcase c (.string ⟨#[]⟩)]) (blocking := false) (shape := .select) (w' := w) rfl rfl (by decide) (by simp [go_sem, execOp, rcase, scase, Act.eval])) h3) ?_
  rw [Frame.finish_at]
  walk_nrm
  refine LoneTo.goes (n := 60) ?_
  s_op
  s_op
  s_c stepG_region_end
  s_c stepG_block
  s_cond false
  s_c stepG_seq
  s_reg
  s_op
  s_op
  s_c stepG_region_end
  s_c stepG_ret'
  s_stop
  exact LoneTo.done ⟨.returned (.tuple #[.string ⟨#[]⟩, .bool false]), _, rfl, ⟨rfl, rfl⟩, rfl, rfl, rfl, rfl, _, Try.func9, by simp [results, Try.f9, Frame.at]⟩

theorem put_nil (x : ByteArray) (w : World) : Calls Try.prog 8 #[.pointer none, .string x] w fun e w' => e = .returned (.bool false) ∧ w' = w := by
  go_enter Try.func8, Try.ntmps8
  go_wp2_with fail
  go_ret
  exact ⟨rfl, rfl⟩
theorem get_nil (w : World) : Calls Try.prog 9 #[.pointer none] w fun e w' => e = .returned (.tuple #[.string ⟨#[]⟩, .bool false]) ∧ w' = w := by
  go_enter Try.func9, Try.ntmps9
  go_wp2_with fail
  go_ret2
  exact ⟨rfl, rfl⟩

theorem len_nil (w : World) : Calls Try.prog 13 #[.pointer none] w fun e w' => e = .returned (.int .i64 0) ∧ w' = w := by
  go_enter Try.func13, Try.ntmps13
  go_wp2_with fail
  go_ret
  exact ⟨rfl, rfl⟩
theorem room_nil (w : World) : Calls Try.prog 14 #[.pointer none] w fun e w' => e = .returned (.int .i64 0) ∧ w' = w := by
  go_enter Try.func14, Try.ntmps14
  go_wp2_with fail
  go_ret
  exact ⟨rfl, rfl⟩
theorem len_box (p c room : Nat) (l : List ByteArray) (w : World) (h : BoxAt w p c room l) :
    Calls Try.prog 13 #[.pointer (some ⟨p, 0, none⟩)] w fun e w' => e = .returned (.int .i64 l.length) ∧ w' = w := by
  obtain ⟨h0, h1, h5, s, r, h3⟩ := id h
  have h2 := h.cell
  obtain ⟨hl, hr⟩ := h5
  have hlen := fun t => run_len_chan (P := Try.prog) 46 t Try.underlying46 h3
  go_enter Try.func13, Try.ntmps13
  go_wp2_with fail
  go_ret
  exact ⟨by simp [goInt, sv_size], rfl⟩
theorem room_box (p c room : Nat) (l : List ByteArray) (w : World) (h : BoxAt w p c room l) :
    Calls Try.prog 14 #[.pointer (some ⟨p, 0, none⟩)] w fun e w' => e = .returned (.int .i64 (room - l.length : Nat)) ∧ w' = w.drew := by
  obtain ⟨h0, h1, h5, s, r, h3⟩ := id h
  have h2 := h.cell
  obtain ⟨hl, hr⟩ := h5
  have hlen := fun t => run_len_chan (P := Try.prog) 46 t Try.underlying46 (show w.drew.heap[c]? = _ from h3)
  have hcap := fun t => run_cap_chan (P := Try.prog) 46 t Try.underlying46 (show w.drew.heap[c]? = _ from h3)
  go_enter Try.func14, Try.ntmps14
  go_wp2_with fail
  go_region
  go_wp2_with fail
  go_ret
  refine ⟨ret_int ?_, rfl⟩
  rw [sv_size, IntWalk.wrap64_in _ ⟨by omega, by omega⟩]
  omega
theorem bytes_string : ∃ i, Try.prog.info? 9 = some i ∧ i.bytes = 16 := by
  have h : (Try.prog.info? 9).map (·.bytes) = some 16 := by kernel_rfl
  obtain ⟨i, hi, hb⟩ := Option.map_eq_some_iff.1 h
  exact ⟨i, hi, hb⟩
theorem make_chan (w : World) (n : Nat) (hn : n ≤ 256) : (Instr.makeChan 46 (.int .i64 n)).run Try.prog w = .ok (.chan (some w.heap.size)) (w.alloc (.chan n #[] false 0 0 false)) := by
  obtain ⟨i, hi, hb⟩ := bytes_string
  simpa using run_makeChan (P := Try.prog) (w := w) Try.underlying46 hi .i64 n (by omega) (by rw [hb]; omega)
theorem new_bad (n : Int) (w : World) (h : n < 1 ∨ 256 < n) : Calls Try.prog 6 #[.int .i64 n] w fun e w' => e = .returned (.tuple #[.pointer none, .int .i64 2]) ∧ w' = w := by
  go_enter Try.func6, Try.ntmps6
  rcases h with h | h
  · go_wp2_with fail
    go_ret2
    exact ⟨rfl, rfl⟩
  · have h' : ¬ n < 1 := by omega
    go_wp2_with fail
    go_ret2
    exact ⟨rfl, rfl⟩
theorem new_box (n : Nat) (w : World) (h1 : 1 ≤ n) (h2 : n ≤ 256) : Calls Try.prog 6 #[.int .i64 n] w fun e w' => e = .returned (.tuple #[.pointer (some ⟨w.heap.size + 1, 0, none⟩), .int .i64 0]) ∧ Below w.heap.size w w' ∧ BoxAt w' (w.heap.size + 1) w.heap.size n [] := by
  have hm := fun w => make_chan w n h2
  go_enter Try.func6, Try.ntmps6
  have ha : ¬ (n : Int) < 1 := by omega
  have hb : ¬ (256 : Int) < n := by omega
  go_wp2_with fail
  go_ret2
  refine ⟨rfl, ((Below.refl _ _).alloc (Nat.le_refl _) _).alloc (by simp) _, by omega, ?_, ⟨by simp, h2⟩, 0, 0, ?_⟩
  · have h := heap_alloc_top (w.alloc (.chan n #[] false 0 0 false)) (.cells #[.chan (some w.heap.size)] 48)
    rw [World.size_alloc] at h
    exact h
  · rw [heap_alloc_lt _ _ _ (by simp)]
    exact heap_alloc_top _ _
end Go.Proofs.Ytkmchbmajfmbhaa
