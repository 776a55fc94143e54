/- The box of whole numbers: what each call of it does. No condition. -/
import Derived.Test.YthnlfgogibjbnaaBoxDef
import Derived.Test.YthnlfgogibjbnaaLocks
import Derived.Test.YthnlfgogibjbnaaRingI
import Derived.Conc.MuLone
import Derived.Conc.LoneSelectN
import Derived.Conc.SmallLaws
import Derived.Conc.EventLaws
import Derived.WalkLawsBesides
import Derived.BigQuiet
namespace Go.Proofs.Ythnlfgogibjbnaa.BX
open Go.RowKit Go.Conc Go.MuLone
set_option linter.unusedVariables false

abbrev val : Int → Value := fun z => .int .i64 z
/-- What a call leaves that turns the box. -/
def Out (w : World) (B g c most : Nat) (cl : Bool) (ys : List Int) (w' : World) : Prop := BoxAt val 59 w' B g c most cl ys ∧ Keeps (boxF g c) w w'
theorem run_eql_chan {P : Program} {t e : TypeId} {d : ChanDir} (ht : P.underlying t = some (.chan d e)) (c : Nat) (w : World) : (binOp .eql t (.chan (some c)) (.chan none)).run P w = .ok (.bool false) w := by
  have h : ∀ d : Nat, (Op.equalIn (d + 1) t (.chan (some c)) (.chan none)).run P w = .ok false w := fun d => by simp [Op.equalIn, run_underlying ht]
  simp only [binOp]
  simp [Op.equal, Op.maxDepth, h 9999]
theorem run_eql_chan_none {P : Program} {t e : TypeId} {d : ChanDir} (ht : P.underlying t = some (.chan d e)) (w : World) : (binOp .eql t (.chan none) (.chan none)).run P w = .ok (.bool true) w := by
  have h : ∀ d : Nat, (Op.equalIn (d + 1) t (.chan none) (.chan none)).run P w = .ok true w := fun d => by simp [Op.equalIn, run_underlying ht]
  simp only [binOp]
  simp [Op.equal, Op.maxDepth, h 9999]
theorem taken {w : World} {B g c most s r : Nat} {closed : Bool} {x : Int} {xs : List Int} {buf : Array Value} (h : BoxAt val 59 w B g c most closed (x :: xs)) (hc : w.heap[c]? = some (.chan most ((x :: xs).map val).toArray closed s r false))
    (hb : buf = (xs.map val).toArray) : Out w B g c most closed xs (w.setChan c most buf closed s (r + 1) false) := by
  subst hb
  exact h.turn (keeps_setChan (S := boxF g c) (Keeps.refl _ w) (.inr rfl) _ _ _ _ _ _) (h.blk.keeps (S := fun k => k = c) (keeps_setChan (S := fun k => k = c) (Keeps.refl _ w) rfl _ _ _ _ _ _) h.ne) (heap_setChan w c _ _ _ _ _ _ (Array.getElem?_eq_some_iff.1 hc).1) (by have := h.le; simp at this; omega)
theorem len_chan_none {P : Program} {t e : TypeId} {d : ChanDir} (ht : P.underlying t = some (.chan d e)) (ty : TypeId) (w : World) : (Builtin.len_ #[t] ty #[.chan none]).run P w = .ok (goInt 0) w := by
  simp [Builtin.len_, run_underlying ht]
/-- The lock is taken, w1 is turned, and the lock is given back. -/
theorem locked {w w1 : World} {B g c most : Nat} {closed cl : Bool} {xs ys : List Int} (h : BoxAt val 59 w B g c most closed xs) (hk : Keeps (boxF g c) (w.setCell ⟨g, 0, none⟩ (.int .i32 1)) w1)
    (hb : Blk w1 g 59 #[.int .i32 1, .int .u32 0, .chan (some c), .bool cl]) (hc : ∃ s r, w1.heap[c]? = some (.chan most (ys.map val).toArray cl s r false)) (hl : ys.length ≤ most) : Out w B g c most cl ys (w1.setCell ⟨g, 0, none⟩ (.int .i32 0)) := by
  obtain ⟨s, r, hc⟩ := hc
  have h1 : Keeps (boxF g c) w (w.setCell ⟨g, 0, none⟩ (.int .i32 1)) := Keeps.setCell (S := boxF g c) (p := ⟨g, 0, none⟩) (Keeps.refl _ w) (fun _ => .inl rfl) _
  have h2 := h1.trans hk (fun _ _ h => h)
  exact h.turn (h2.setCell (p := ⟨g, 0, none⟩) (fun _ => .inl rfl) _) (hb.set_ 0 (.int .i32 0)) ((Below.heap_setCell w1 ⟨g, 0, none⟩ _ c h.ne.symm).trans hc) hl
theorem lock1 {w : World} {B g c most : Nat} {closed : Bool} {xs : List Int} (h : BoxAt val 59 w B g c most closed xs) :
    Blk (w.setCell ⟨g, 0, none⟩ (.int .i32 1)) g 59 #[.int .i32 1, .int .u32 0, .chan (some c), .bool closed] ∧ ∃ s r, (w.setCell ⟨g, 0, none⟩ (.int .i32 1)).heap[c]? = some (.chan most (xs.map val).toArray closed s r false) := by
  obtain ⟨s, r, hc⟩ := h.ch
  exact ⟨h.blk.set_ 0 (.int .i32 1), s, r, (Below.heap_setCell w ⟨g, 0, none⟩ _ c h.ne.symm).trans hc⟩
theorem bytesInt : ∃ i, Try.prog.info? 3 = some i ∧ i.bytes = 8 := by
  have h : (Try.prog.info? 3).map (·.bytes) = some 8 := by kernel_rfl
  obtain ⟨i, hi, hb⟩ := Option.map_eq_some_iff.1 h
  exact ⟨i, hi, hb⟩

theorem take_nochan (w : World) (g : Nat) (hg : w.cell? ⟨g, 2, none⟩ = some (.chan none)) : Calls Try.prog 32 #[.pointer (some ⟨g, 0, none⟩)] w fun e w' => e = .returned (.tuple #[.int .i64 0, .bool false]) ∧ w = w' := by
  refine calls_of_lone Try.func32 rfl (by simp) fun cs => ?_
  simp only [Try.ntmps32, List.size_toArray, List.length_cons, List.length_nil, Nat.reduceAdd, Nat.reduceSub, Array.replicate_succ, Array.replicate_zero, List.push_toArray, List.append_toArray, List.nil_append, List.cons_append]
  refine lone_seq (lone_code fun K hK => ?_)
  go_wp2
  refine lone_seq (lone_code fun K hK => ?_)
  go_wp2
  refine lone_seq (lone_code fun K hK => ?_)
  go_wp2
  refine lone_seq (lone_code fun K hK => ?_)
  go_wp2
  refine lone_seq ?_
  refine LoneTo.goes (n := 1) ?_
  s_reg
  s_stop
  refine LoneTo.step (step_lone_select_recv_nil (z := .int .i64 0) (stepG_comm (cases := #[rcaseNil (.int .i64 0)]) (blocking := false) (shape := .select) (w' := w) rfl rfl (by decide) (by simp [go_sem, execOp, rcaseNil, Act.eval]))) ?_
  rw [Frame.finish_at]
  walk_nrm
  refine LoneTo.goes (n := 3) ?_
  s_op
  s_op
  s_c stepG_region_end
  s_stop
  refine lone_ret (by simp) Try.func32 rfl ?_
  go_wp2
  exact ⟨_, results_tmp2 rfl _ _ _, rfl, rfl⟩

theorem take_cons {x : Int} {w : World} {B g c most : Nat} {closed : Bool} {xs : List Int} (h : BoxAt val 59 w B g c most closed (x :: xs)) : Calls Try.prog 32 #[.pointer (some ⟨g, 0, none⟩)] w fun e w' => e = .returned (.tuple #[.int .i64 x, .bool true]) ∧ Out w B g c most closed xs w' := by
  refine calls_of_lone Try.func32 rfl (by simp) fun cs => ?_
  simp only [Try.ntmps32, List.size_toArray, List.length_cons, List.length_nil, Nat.reduceAdd, Nat.reduceSub, Array.replicate_succ, Array.replicate_zero, List.push_toArray, List.append_toArray, List.nil_append, List.cons_append]
  obtain ⟨_, h2, _⟩ := h.cells
  obtain ⟨s, r, hc⟩ := h.ch
  refine lone_seq (lone_code fun K hK => ?_)
  go_wp2
  refine lone_seq (lone_code fun K hK => ?_)
  go_wp2
  refine lone_seq (lone_code fun K hK => ?_)
  go_wp2
  refine lone_seq (lone_code fun K hK => ?_)
  go_wp2
  refine lone_seq ?_
  refine LoneTo.goes (n := 1) ?_
  s_reg
  s_stop
  refine LoneTo.step (step_lone_select_recv_buf (c := c) (z := .int .i64 0) (stepG_comm (cases := #[rcase c (.int .i64 0)]) (blocking := false) (shape := .select) (w' := w) rfl rfl (by decide) (by simp [go_sem, execOp, rcase, Act.eval])) hc (by simp)) ?_
  rw [Frame.finish_at]
  walk_nrm
  refine LoneTo.goes (n := 3) ?_
  s_op
  s_op
  s_c stepG_region_end
  s_stop
  refine lone_ret (by simp) Try.func32 rfl ?_
  go_wp2
  exact ⟨_, results_tmp2 rfl _ _ _, rfl, taken h hc (by rw [List.take_of_length_le (by simp)])⟩

theorem take_shut {w : World} {B g c most : Nat} (h : BoxAt val 59 w B g c most true []) : Calls Try.prog 32 #[.pointer (some ⟨g, 0, none⟩)] w fun e w' => e = .returned (.tuple #[.int .i64 0, .bool false]) ∧ w = w' := by
  refine calls_of_lone Try.func32 rfl (by simp) fun cs => ?_
  simp only [Try.ntmps32, List.size_toArray, List.length_cons, List.length_nil, Nat.reduceAdd, Nat.reduceSub, Array.replicate_succ, Array.replicate_zero, List.push_toArray, List.append_toArray, List.nil_append, List.cons_append]
  obtain ⟨_, h2, _⟩ := h.cells
  obtain ⟨s, r, hc⟩ := h.ch
  refine lone_seq (lone_code fun K hK => ?_)
  go_wp2
  refine lone_seq (lone_code fun K hK => ?_)
  go_wp2
  refine lone_seq (lone_code fun K hK => ?_)
  go_wp2
  refine lone_seq (lone_code fun K hK => ?_)
  go_wp2
  refine lone_seq ?_
  refine LoneTo.goes (n := 1) ?_
  s_reg
  s_stop
  refine LoneTo.step (step_lone_select_recv_shut (c := c) (z := .int .i64 0) (stepG_comm (cases := #[rcase c (.int .i64 0)]) (blocking := false) (shape := .select) (w' := w) rfl rfl (by decide) (by simp [go_sem, execOp, rcase, Act.eval])) hc) ?_
  rw [Frame.finish_at]
  walk_nrm
  refine LoneTo.goes (n := 3) ?_
  s_op
  s_op
  s_c stepG_region_end
  s_stop
  refine lone_ret (by simp) Try.func32 rfl ?_
  go_wp2
  exact ⟨_, results_tmp2 rfl _ _ _, rfl, rfl⟩

theorem take_open {w : World} {B g c most : Nat} (h : BoxAt val 59 w B g c most false []) : Calls Try.prog 32 #[.pointer (some ⟨g, 0, none⟩)] w fun e w' => e = .returned (.tuple #[.int .i64 0, .bool false]) ∧ w = w' := by
  refine calls_of_lone Try.func32 rfl (by simp) fun cs => ?_
  simp only [Try.ntmps32, List.size_toArray, List.length_cons, List.length_nil, Nat.reduceAdd, Nat.reduceSub, Array.replicate_succ, Array.replicate_zero, List.push_toArray, List.append_toArray, List.nil_append, List.cons_append]
  obtain ⟨_, h2, _⟩ := h.cells
  obtain ⟨s, r, hc⟩ := h.ch
  refine lone_seq (lone_code fun K hK => ?_)
  go_wp2
  refine lone_seq (lone_code fun K hK => ?_)
  go_wp2
  refine lone_seq (lone_code fun K hK => ?_)
  go_wp2
  refine lone_seq (lone_code fun K hK => ?_)
  go_wp2
  refine lone_seq ?_
  refine LoneTo.goes (n := 1) ?_
  s_reg
  s_stop
  refine LoneTo.step (step_lone_select_default (c := c) (z := .int .i64 0) (stepG_comm (cases := #[rcase c (.int .i64 0)]) (blocking := false) (shape := .select) (w' := w) rfl rfl (by decide) (by simp [go_sem, execOp, rcase, Act.eval])) hc) ?_
  rw [Frame.finish_at]
  walk_nrm
  refine LoneTo.goes (n := 3) ?_
  s_op
  s_op
  s_c stepG_region_end
  s_stop
  refine lone_ret (by simp) Try.func32 rfl ?_
  go_wp2
  exact ⟨_, results_tmp2 rfl _ _ _, rfl, rfl⟩

theorem take_nil (w : World) : Calls Try.prog 32 #[.pointer none] w fun e w' => e = .returned (.tuple #[.int .i64 0, .bool false]) ∧ w = w' := by
  refine calls_of_lone Try.func32 rfl (by simp) fun cs => ?_
  simp only [Try.ntmps32, List.size_toArray, List.length_cons, List.length_nil, Nat.reduceAdd, Nat.reduceSub, Array.replicate_succ, Array.replicate_zero, List.push_toArray, List.append_toArray, List.nil_append, List.cons_append]
  refine lone_seq (lone_code fun K hK => ?_)
  go_wp2
  refine lone_seq (lone_code fun K hK => ?_)
  go_wp2
  refine lone_seq (lone_ret (by simp) Try.func32 rfl ?_)
  go_wp2
  exact ⟨_, results_tmp2 rfl _ _ _, rfl, rfl⟩

theorem len_any {w : World} {B g c most : Nat} {closed : Bool} {xs : List Int} (h : BoxAt val 59 w B g c most closed xs) : Calls Try.prog 34 #[.pointer (some ⟨g, 0, none⟩)] w fun e w' => e = .returned (.int .i64 (xs.length : Int)) ∧ w = w' := by
  obtain ⟨_, h2, _⟩ := h.cells
  obtain ⟨s, r, hc⟩ := h.ch
  have hl := fun ty => run_len_chan (P := Try.prog) 57 ty Try.underlying57 hc
  go_enter Try.func34, Try.ntmps34
  go_wp2
  go_ret
  exact ⟨rfl, rfl⟩

theorem len_nochan (w : World) (g : Nat) (hg : w.cell? ⟨g, 2, none⟩ = some (.chan none)) : Calls Try.prog 34 #[.pointer (some ⟨g, 0, none⟩)] w fun e w' => e = .returned (.int .i64 0) ∧ w = w' := by
  have hl := len_chan_none (P := Try.prog) Try.underlying57
  go_enter Try.func34, Try.ntmps34
  go_wp2
  go_ret
  exact ⟨rfl, rfl⟩

theorem len_nil (w : World) : Calls Try.prog 34 #[.pointer none] w fun e w' => e = .returned (.int .i64 0) ∧ w = w' := by
  go_enter Try.func34, Try.ntmps34
  go_wp2
  go_ret
  exact ⟨rfl, rfl⟩

theorem send_nil (v : Int) (w : World) : Calls Try.prog 33 #[.pointer none, .int .i64 v] w fun e w' => e = .returned (.bool false) ∧ w = w' := by
  refine calls_of_lone Try.func33 rfl (by simp) fun cs => ?_
  simp only [Try.ntmps33, List.size_toArray, List.length_cons, List.length_nil, Nat.reduceAdd, Nat.reduceSub, Array.replicate_succ, Array.replicate_zero, List.push_toArray, List.append_toArray, List.nil_append, List.cons_append]
  refine lone_seq (lone_code fun K hK => ?_)
  go_wp2
  refine lone_seq (lone_ret (by simp) Try.func33 rfl ?_)
  go_wp2
  exact ⟨_, results_tmp rfl _ _ _, rfl, rfl⟩

theorem close_nil (w : World) : Calls Try.prog 31 #[.pointer none] w fun e w' => e = .returned (.bool false) ∧ w = w' := by
  go_enter_defers Try.func31, Try.ntmps31
  go_wp2
  exact ⟨_, results_tmp rfl _ _ _, rfl, rfl⟩

theorem close_nochan (w : World) (g : Nat) (hg : w.cell? ⟨g, 2, none⟩ = some (.chan none)) : Calls Try.prog 31 #[.pointer (some ⟨g, 0, none⟩)] w fun e w' => e = .returned (.bool false) ∧ w = w' := by
  have hq := run_eql_chan_none (P := Try.prog) Try.underlying57
  go_enter_defers Try.func31, Try.ntmps31
  go_wp2
  exact ⟨_, results_tmp rfl _ _ _, rfl, rfl⟩

theorem close_shut {w : World} {B g c most : Nat} {xs : List Int} (h : BoxAt val 59 w B g c most true xs) : Calls Try.prog 31 #[.pointer (some ⟨g, 0, none⟩)] w fun e w' => e = .returned (.bool false) ∧ Out w B g c most true xs w' := by
  obtain ⟨h0, h2, h3⟩ := h.cells
  have hq := run_eql_chan (P := Try.prog) Try.underlying57 c
  have f0 := h.blk.frozen 0
  go_enter_defers Try.func31, Try.ntmps31
  go_wp2_with (go_at_call 39; refine (lock_free muLib ⟨g, 0, none⟩ _ h0 f0).mono ?_; rintro e w' ⟨rfl, rfl⟩)
  refine leaves_cons (f := 40) (args := #[.pointer (some ⟨g, 0, none⟩)]) (by simp) (by simp [go_sem]) ?_
  refine (unlock_deferred muLib ⟨g, 0, none⟩ .returning _ (lock1 h |>.1.cell 0) ((lock1 h).1.frozen 0)).mono ?_
  rintro e u' w'' ⟨rfl, rfl, rfl⟩
  exact ⟨_, results_tmp rfl _ _ _, rfl, locked h (Keeps.refl _ _) (lock1 h).1 (lock1 h).2 h.le⟩

theorem close_open {w : World} {B g c most : Nat} {xs : List Int} (h : BoxAt val 59 w B g c most false xs) : Calls Try.prog 31 #[.pointer (some ⟨g, 0, none⟩)] w fun e w' => e = .returned (.bool true) ∧ Out w B g c most true xs w' := by
  obtain ⟨h0, h2, h3⟩ := h.cells
  have hq := run_eql_chan (P := Try.prog) Try.underlying57 c
  have f0 := h.blk.frozen 0
  obtain ⟨hb1, s, r, hc1⟩ := lock1 h
  have f3 := hb1.frozen 3
  have hb2 := hb1.set_ 3 (.bool true)
  have hc2 := (Below.heap_setCell (w.setCell ⟨g, 0, none⟩ (.int .i32 1)) ⟨g, 3, none⟩ (.bool true) c h.ne.symm).trans hc1
  have hcl := fun ats ty => run_close_open (P := Try.prog) (w := ((w.setCell ⟨g, 0, none⟩ (.int .i32 1)).setCell ⟨g, 3, none⟩ (.bool true))) ats ty hc2
  have HC := Lib.hid hc2
  have HB := Lib.hid hb2
  clear hc2 hb2 hc1
  go_enter_defers Try.func31, Try.ntmps31
  go_wp2_with (go_at_call 39; refine (lock_free muLib ⟨g, 0, none⟩ _ h0 f0).mono ?_; rintro e w' ⟨rfl, rfl⟩)
  have hcb := (Array.getElem?_eq_some_iff.1 HC.out).1
  have HB2 : Blk (((w.setCell ⟨g, 0, none⟩ (.int .i32 1)).setCell ⟨g, 3, none⟩ (.bool true)).setChan c most (xs.map val).toArray true s r false) g 59 #[.int .i32 1, .int .u32 0, .chan (some c), .bool true] :=
    Blk.keeps (S := fun k => k = c) HB.out (keeps_setChan (S := fun k => k = c) (Keeps.refl _ _) rfl _ _ _ _ _ _) h.ne
  refine leaves_cons (f := 40) (args := #[.pointer (some ⟨g, 0, none⟩)]) (by simp) (by simp [go_sem]) ?_
  refine (unlock_deferred muLib ⟨g, 0, none⟩ .returning _ (HB2.cell 0) (HB2.frozen 0)).mono ?_
  rintro e u' w'' ⟨rfl, rfl, rfl⟩
  refine ⟨_, results_tmp rfl _ _ _, rfl, locked h (keeps_setChan (S := boxF g c) (Keeps.setCell (S := boxF g c) (p := ⟨g, 3, none⟩) (Keeps.refl _ _) (fun _ => .inl rfl) _) (.inr rfl) _ _ _ _ _ _) HB2 ⟨s, r, heap_setChan _ c _ _ _ _ _ _ hcb⟩ h.le⟩

theorem send_shut {w : World} {B g c most : Nat} {xs : List Int} (v : Int) (h : BoxAt val 59 w B g c most true xs) : Calls Try.prog 33 #[.pointer (some ⟨g, 0, none⟩), .int .i64 v] w fun e w' => e = .returned (.bool false) ∧ Out w B g c most true xs w' := by
  obtain ⟨h0, h2, h3⟩ := h.cells
  have f0 := h.blk.frozen 0
  refine calls_of_lone Try.func33 rfl (by simp) fun cs => ?_
  simp only [Try.ntmps33, List.size_toArray, List.length_cons, List.length_nil, Nat.reduceAdd, Nat.reduceSub, Array.replicate_succ, Array.replicate_zero, List.push_toArray, List.append_toArray, List.nil_append, List.cons_append]
  refine lone_seq (lone_code fun K hK => ?_)
  go_wp2
  refine lone_seq (lone_code fun K hK => ?_)
  go_wp2
  refine lone_seq (lone_code fun K hK => ?_)
  go_wp2_with (go_at_call 39; refine (lock_free muLib ⟨g, 0, none⟩ _ h0 f0).mono ?_; rintro e w' ⟨rfl, rfl⟩)
  refine lone_seq (lone_code fun K hK => ?_)
  go_wp2
  refine lone_seq (lone_ret (by simp) Try.func33 rfl ?_)
  go_wp2
  refine leaves_cons (f := 40) (args := #[.pointer (some ⟨g, 0, none⟩)]) (by simp) (by simp [go_sem]) ?_
  refine (unlock_deferred muLib ⟨g, 0, none⟩ .returning _ (lock1 h |>.1.cell 0) ((lock1 h).1.frozen 0)).mono ?_
  rintro e u' w'' ⟨rfl, rfl, rfl⟩
  exact ⟨_, results_tmp rfl _ _ _, rfl, locked h (Keeps.refl _ _) (lock1 h).1 (lock1 h).2 h.le⟩

theorem send_full {w : World} {B g c most : Nat} {xs : List Int} (v : Int) (h : BoxAt val 59 w B g c most false xs) (hf : most ≤ xs.length) : Calls Try.prog 33 #[.pointer (some ⟨g, 0, none⟩), .int .i64 v] w fun e w' => e = .returned (.bool false) ∧ Out w B g c most false xs w' := by
  obtain ⟨h0, h2, h3⟩ := h.cells
  have f0 := h.blk.frozen 0
  obtain ⟨hb1, s, r, hc1⟩ := lock1 h
  refine calls_of_lone Try.func33 rfl (by simp) fun cs => ?_
  simp only [Try.ntmps33, List.size_toArray, List.length_cons, List.length_nil, Nat.reduceAdd, Nat.reduceSub, Array.replicate_succ, Array.replicate_zero, List.push_toArray, List.append_toArray, List.nil_append, List.cons_append]
  refine lone_seq (lone_code fun K hK => ?_)
  go_wp2
  refine lone_seq (lone_code fun K hK => ?_)
  go_wp2
  refine lone_seq (lone_code fun K hK => ?_)
  go_wp2_with (go_at_call 39; refine (lock_free muLib ⟨g, 0, none⟩ _ h0 f0).mono ?_; rintro e w' ⟨rfl, rfl⟩)
  refine lone_seq (lone_code fun K hK => ?_)
  go_wp2
  refine lone_seq (lone_code fun K hK => ?_)
  go_wp2
  refine lone_seq (lone_code fun K hK => ?_)
  go_wp2
  refine lone_seq ?_
  refine LoneTo.goes (n := 1) ?_
  s_reg
  s_stop
  refine LoneTo.step (step_lone_select_send_full (c := c) (v := .int .i64 v) (z' := .int .i64 0) (stepG_comm (cases := #[scase c (.int .i64 v) (.int .i64 0)]) (blocking := false) (shape := .select) (w' := (w.setCell ⟨g, 0, none⟩ (.int .i32 1))) rfl rfl (by decide) (by simp [go_sem, execOp, scase, Act.eval])) hc1 (by simpa using hf)) ?_
  rw [Frame.finish_at]
  walk_nrm
  refine LoneTo.goes (n := 3) ?_
  s_op
  s_op
  s_c stepG_region_end
  s_stop
  refine lone_ret (by simp) Try.func33 rfl ?_
  go_wp2
  refine leaves_cons (f := 40) (args := #[.pointer (some ⟨g, 0, none⟩)]) (by simp) (by simp [go_sem]) ?_
  refine (unlock_deferred muLib ⟨g, 0, none⟩ .returning _ (hb1.cell 0) (hb1.frozen 0)).mono ?_
  rintro e u' w'' ⟨rfl, rfl, rfl⟩
  exact ⟨_, results_tmp rfl _ _ _, rfl, locked h (Keeps.refl _ _) hb1 ⟨s, r, hc1⟩ h.le⟩

theorem send_room {w : World} {B g c most : Nat} {xs : List Int} (v : Int) (h : BoxAt val 59 w B g c most false xs) (hf : xs.length < most) : Calls Try.prog 33 #[.pointer (some ⟨g, 0, none⟩), .int .i64 v] w fun e w' => e = .returned (.bool true) ∧ Out w B g c most false (xs ++ [v]) w' := by
  obtain ⟨h0, h2, h3⟩ := h.cells
  have f0 := h.blk.frozen 0
  obtain ⟨hb1, s, r, hc1⟩ := lock1 h
  refine calls_of_lone Try.func33 rfl (by simp) fun cs => ?_
  simp only [Try.ntmps33, List.size_toArray, List.length_cons, List.length_nil, Nat.reduceAdd, Nat.reduceSub, Array.replicate_succ, Array.replicate_zero, List.push_toArray, List.append_toArray, List.nil_append, List.cons_append]
  refine lone_seq (lone_code fun K hK => ?_)
  go_wp2
  refine lone_seq (lone_code fun K hK => ?_)
  go_wp2
  refine lone_seq (lone_code fun K hK => ?_)
  go_wp2_with (go_at_call 39; refine (lock_free muLib ⟨g, 0, none⟩ _ h0 f0).mono ?_; rintro e w' ⟨rfl, rfl⟩)
  refine lone_seq (lone_code fun K hK => ?_)
  go_wp2
  refine lone_seq (lone_code fun K hK => ?_)
  go_wp2
  refine lone_seq (lone_code fun K hK => ?_)
  go_wp2
  refine lone_seq ?_
  refine LoneTo.goes (n := 1) ?_
  s_reg
  s_stop
  refine LoneTo.step (step_lone_select_send_room (c := c) (v := .int .i64 v) (z' := .int .i64 0) (stepG_comm (cases := #[scase c (.int .i64 v) (.int .i64 0)]) (blocking := false) (shape := .select) (w' := (w.setCell ⟨g, 0, none⟩ (.int .i32 1))) rfl rfl (by decide) (by simp [go_sem, execOp, scase, Act.eval])) hc1 (by simpa using hf)) ?_
  rw [Frame.finish_at]
  walk_nrm
  refine LoneTo.goes (n := 3) ?_
  s_op
  s_op
  s_c stepG_region_end
  s_stop
  refine lone_ret (by simp) Try.func33 rfl ?_
  go_wp2
  have hcb := (Array.getElem?_eq_some_iff.1 hc1).1
  have HB2 : Blk ((w.setCell ⟨g, 0, none⟩ (.int .i32 1)).setChan c most ((xs.map val) ++ [Value.int .i64 v]).toArray false (s + 1) r false) g 59 #[.int .i32 1, .int .u32 0, .chan (some c), .bool false] :=
    Blk.keeps (S := fun k => k = c) hb1 (keeps_setChan (S := fun k => k = c) (Keeps.refl _ _) rfl _ _ _ _ _ _) h.ne
  refine leaves_cons (f := 40) (args := #[.pointer (some ⟨g, 0, none⟩)]) (by simp) (by simp [go_sem]) ?_
  refine (unlock_deferred muLib ⟨g, 0, none⟩ .returning _ (HB2.cell 0) (HB2.frozen 0)).mono ?_
  rintro e u' w'' ⟨rfl, rfl, rfl⟩
  refine ⟨_, results_tmp rfl _ _ _, rfl, locked h (keeps_setChan (S := boxF g c) (Keeps.refl _ _) (.inr rfl) _ _ _ _ _ _) HB2 ⟨s + 1, r, ?_⟩ (by simp; omega)⟩
  rw [List.map_append]
  exact heap_setChan _ c _ _ _ _ _ _ hcb

def ZBox (w : World) (g : Nat) : Prop := Blk w g 59 #[.int .i32 0, .int .u32 0, .chan none, .bool false]

theorem send_nochan {w : World} {g : Nat} (v : Int) (h : ZBox w g) : Calls Try.prog 33 #[.pointer (some ⟨g, 0, none⟩), .int .i64 v] w fun e w' => e = .returned (.bool false) ∧ ZBox w' g ∧ Keeps (fun k => k = g) w w' := by
  have h' : Blk w g 59 #[.int .i32 0, .int .u32 0, .chan none, .bool false] := h
  have h0 := h'.cell 0
  have h2 := h'.cell 2
  have h3 := h'.cell 3
  simp only [List.getElem?_toArray, List.getElem?_cons_zero, List.getElem?_cons_succ] at h0 h2 h3
  have f0 := h'.frozen 0
  have hb1 := h'.set_ 0 (.int .i32 1)
  refine calls_of_lone Try.func33 rfl (by simp) fun cs => ?_
  simp only [Try.ntmps33, List.size_toArray, List.length_cons, List.length_nil, Nat.reduceAdd, Nat.reduceSub, Array.replicate_succ, Array.replicate_zero, List.push_toArray, List.append_toArray, List.nil_append, List.cons_append]
  refine lone_seq (lone_code fun K hK => ?_)
  go_wp2
  refine lone_seq (lone_code fun K hK => ?_)
  go_wp2
  refine lone_seq (lone_code fun K hK => ?_)
  go_wp2_with (go_at_call 39; refine (lock_free muLib ⟨g, 0, none⟩ _ h0 f0).mono ?_; rintro e w' ⟨rfl, rfl⟩)
  refine lone_seq (lone_code fun K hK => ?_)
  go_wp2
  refine lone_seq (lone_code fun K hK => ?_)
  go_wp2
  refine lone_seq (lone_code fun K hK => ?_)
  go_wp2
  refine lone_seq ?_
  refine LoneTo.goes (n := 1) ?_
  s_reg
  s_stop
  refine LoneTo.step (step_lone_select_send_nil (v := .int .i64 v) (z' := .int .i64 0) (stepG_comm (cases := #[scaseNil (.int .i64 v) (.int .i64 0)]) (blocking := false) (shape := .select) (w' := (w.setCell ⟨g, 0, none⟩ (.int .i32 1))) rfl rfl (by decide) (by simp [go_sem, execOp, scaseNil, Act.eval]))) ?_
  rw [Frame.finish_at]
  walk_nrm
  refine LoneTo.goes (n := 3) ?_
  s_op
  s_op
  s_c stepG_region_end
  s_stop
  refine lone_ret (by simp) Try.func33 rfl ?_
  go_wp2
  refine leaves_cons (f := 40) (args := #[.pointer (some ⟨g, 0, none⟩)]) (by simp) (by simp [go_sem]) ?_
  refine (unlock_deferred muLib ⟨g, 0, none⟩ .returning _ (hb1.cell 0) (hb1.frozen 0)).mono ?_
  rintro e u' w'' ⟨rfl, rfl, rfl⟩
  exact ⟨_, results_tmp rfl _ _ _, rfl, hb1.set_ 0 (.int .i32 0), Keeps.setCell (S := fun k => k = g) (p := ⟨g, 0, none⟩) (Keeps.setCell (S := fun k => k = g) (p := ⟨g, 0, none⟩) (Keeps.refl _ w) (fun _ => rfl) _) (fun _ => rfl) _⟩

theorem new_any (z : Int) (w : World) : Calls Try.prog 29 #[.int .i64 z] w fun e w' => e = .returned (.pointer (some ⟨w.heap.size + 1, 0, none⟩)) ∧
    BoxAt val 59 w' w.heap.size (w.heap.size + 1) w.heap.size (RI.roomOf z) false [] ∧ Keeps (fun _ => False) w w' := by
  obtain ⟨i, hi, hb⟩ := bytesInt
  have hr : RI.roomOf z ≤ 100000 := by unfold RI.roomOf; omega
  have hmk := run_makeChan (P := Try.prog) (w := w) Try.underlying57 hi .i64 (RI.roomOf z) (by omega) (by rw [hb]; omega)
  go_enter Try.func29, Try.ntmps29
  go_wp2_with (go_at_call 35; refine (RI.room_fn z _).mono ?_; rintro e w' ⟨rfl, rfl⟩)
  go_ret
  refine ⟨rfl, ⟨?_, ⟨0, 0, ?_⟩, by omega, by omega, Nat.zero_le _⟩, ((Keeps.refl _ _).alloc _).alloc _⟩
  · have := Blk.new (w.alloc (.chan (RI.roomOf z) #[] false 0 0 false)) 59 #[.int .i32 0, .int .u32 0, .chan (some w.heap.size), .bool false]
    simpa using this
  · rw [Below.heap_alloc _ _ _ (by simp)]
    exact heap_alloc_new w _
end Go.Proofs.Ythnlfgogibjbnaa.BX
