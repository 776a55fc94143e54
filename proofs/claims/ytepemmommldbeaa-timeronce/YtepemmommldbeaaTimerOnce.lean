/- TimerOnce: the walk. No condition. -/
import Derived.Test.YtepemmommldbeaaClockAlive
import Derived.Test.YtepemmommldbeaaTimer
namespace Go.Proofs.Ytepemmommldbeaa.timerOnce
open Go.RowKit
set_option linter.unusedVariables false

theorem walk (a0 a1 a2 : Int) (w : World) (w0 : (Lit.int .i64 a0).wf = true) (w1 : (Lit.int .i64 a1).wf = true) (w2 : (Lit.int .i64 a2).wf = true) :
    Calls Try.prog 5 #[.int .i64 a0, .int .i64 a1, .int .i64 a2] w fun e w' => e = .returned (.bool true) ∧ Below w.heap.size w w' := by
  clear w0 w1 w2
  by_cases h1 : a0 ≤ a1
  · go_enter Try.func5, Try.ntmps5
    go_wp2_with (go_at_call 9; refine (CL.alive_any _).mono ?_; rintro e w1 ⟨rfl, hb⟩)
    go_ret
    exact ⟨rfl, hb⟩
  by_cases h2 : a2 < a0
  · go_enter Try.func5, Try.ntmps5
    go_wp2_with (go_at_call 9; refine (CL.alive_any _).mono ?_; rintro e w1 ⟨rfl, hb⟩)
    go_ret
    exact ⟨rfl, hb⟩
  have hT : TM.Tm (w.alloc (.cells #[.int .i64 0, .bool false] 38)) w.heap.size 0 false := Blk.new _ _ _
  have hB : Below w.heap.size w (w.alloc (.cells #[.int .i64 0, .bool false] 38)) := (Below.refl _ _).alloc (Nat.le_refl _) _
  go_enter Try.func5, Try.ntmps5
  go_wp2_with fail
  refine (TM.set_any hT a0).mono ?_; rintro e x1 ⟨rfl, t1, k1⟩
  go_wp2_with fail
  refine (TM.due_early t1 a1 (by omega)).mono ?_; rintro e w' ⟨rfl, rfl⟩
  go_wp2_with fail
  refine (TM.due_yes t1 a2 (by omega)).mono ?_; rintro e x2 ⟨rfl, t2, k2⟩
  go_wp2_with fail
  refine (TM.due_off t2 a2).mono ?_; rintro e w' ⟨rfl, rfl⟩
  go_wp2_with fail
  refine (TM.set_any t2 a0).mono ?_; rintro e x3 ⟨rfl, t3, k3⟩
  go_wp2_with fail
  refine (TM.due_yes t3 a0 (by omega)).mono ?_; rintro e x4 ⟨rfl, t4, k4⟩
  go_wp2_with fail
  refine (TM.set_any t4 a0).mono ?_; rintro e x5 ⟨rfl, t5, k5⟩
  go_wp2_with fail
  refine (TM.stop_any t5).mono ?_; rintro e x6 ⟨rfl, t6, k6⟩
  have hge : ∀ k, only w.heap.size k → w.heap.size ≤ k := fun k hk => Nat.le_of_eq hk.symm
  have g1 := k1.after hB hge hB.size
  have g2 := k2.after g1 hge g1.size
  have g3 := k3.after g2 hge g2.size
  have g4 := k4.after g3 hge g3.size
  have g5 := k5.after g4 hge g4.size
  have g6 := k6.after g5 hge g5.size
  go_wp2_with fail
  refine (CL.alive_any _).mono ?_; rintro e x7 ⟨rfl, hb⟩
  have t7 := t6.below hb t6.lt
  go_wp2_with fail
  refine (TM.due_off t7 a2).mono ?_; rintro e w' ⟨rfl, rfl⟩
  go_wp2_with fail
  go_ret
  exact ⟨rfl, g6.trans (hb.mono g6.size)⟩
end Go.Proofs.Ytepemmommldbeaa.timerOnce
