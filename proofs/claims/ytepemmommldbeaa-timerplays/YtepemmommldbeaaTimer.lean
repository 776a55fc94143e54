/- The timer of chapter 16: what each call does. No condition. -/
import Derived.Test.YtepemmommldbeaaMore
import Derived.Test.YtepemmommldbeaaChecked
import Derived.WalkSpells
import Derived.WalkLawsBesides
import Derived.Handy
import Derived.OpenShut
import Derived.BigQuiet
import Derived.Deep.QuietTactic
namespace Go.Proofs.Ytepemmommldbeaa.TM
open Go.RowKit
set_option linter.unusedVariables false

abbrev Tm (w : World) (g : Nat) (z : Int) (b : Bool) : Prop := Blk w g 38 #[.int .i64 z, .bool b]

theorem set_nil (n : Int) (w : World) : Calls Try.prog 16 #[.pointer none, .int .i64 n] w fun e w' => e = .returned (.tuple #[]) ∧ w = w' := by
  go_enter Try.func16, Try.ntmps16
  go_wp2
  refine bodyPost_end (results_none rfl _ _ _) rfl ?_
  exact ⟨rfl, rfl⟩
theorem stop_nil (w : World) : Calls Try.prog 18 #[.pointer none] w fun e w' => e = .returned (.tuple #[]) ∧ w = w' := by
  go_enter Try.func18, Try.ntmps18
  go_wp2
  refine bodyPost_end (results_none rfl _ _ _) rfl ?_
  exact ⟨rfl, rfl⟩
theorem due_nil (n : Int) (w : World) : Calls Try.prog 17 #[.pointer none, .int .i64 n] w fun e w' => e = .returned (.bool false) ∧ w = w' := by
  go_enter Try.func17, Try.ntmps17
  go_wp2
  go_ret
  exact ⟨rfl, rfl⟩
theorem left_nil (n : Int) (w : World) : Calls Try.prog 19 #[.pointer none, .int .i64 n] w fun e w' => e = .returned (.int .i64 (-1)) ∧ w = w' := by
  go_enter Try.func19, Try.ntmps19
  go_wp2
  go_ret
  exact ⟨rfl, rfl⟩

theorem set_any {w : World} {g : Nat} {z : Int} {b : Bool} (h : Tm w g z b) (n : Int) : Calls Try.prog 16 #[.pointer (some ⟨g, 0, none⟩), .int .i64 n] w fun e w' => e = .returned (.tuple #[]) ∧ Tm w' g n true ∧ Keeps (only g) w w' := by
  have f0 := h.frozen 0
  have f1 := h.frozen 1
  have c0 := h.cell 0
  have c1 := h.cell 1
  have K := keep2 w g 0 1 (.int .i64 n) (.bool true)
  have B := (h.set_ 0 (.int .i64 n)).set_ 1 (.bool true)
  go_enter Try.func16, Try.ntmps16
  go_wp2
  refine bodyPost_end (results_none rfl _ _ _) rfl ?_
  exact ⟨rfl, B, K⟩
theorem stop_any {w : World} {g : Nat} {z : Int} {b : Bool} (h : Tm w g z b) : Calls Try.prog 18 #[.pointer (some ⟨g, 0, none⟩)] w fun e w' => e = .returned (.tuple #[]) ∧ Tm w' g z false ∧ Keeps (only g) w w' := by
  have f1 := h.frozen 1
  have c1 := h.cell 1
  have K := keep1 w g 1 (.bool false)
  have B := h.set_ 1 (.bool false)
  go_enter Try.func18, Try.ntmps18
  go_wp2
  refine bodyPost_end (results_none rfl _ _ _) rfl ?_
  exact ⟨rfl, B, K⟩
theorem due_yes {w : World} {g : Nat} {z : Int} (h : Tm w g z true) (n : Int) (hn : z ≤ n) : Calls Try.prog 17 #[.pointer (some ⟨g, 0, none⟩), .int .i64 n] w fun e w' => e = .returned (.bool true) ∧ Tm w' g z false ∧ Keeps (only g) w w' := by
  have f1 := h.frozen 1
  have c0 := h.cell 0
  have c1 := h.cell 1
  have K := keep1 w g 1 (.bool false)
  have B := h.set_ 1 (.bool false)
  go_enter Try.func17, Try.ntmps17
  go_wp2
  go_ret
  exact ⟨rfl, B, K⟩
theorem due_early {w : World} {g : Nat} {z : Int} (h : Tm w g z true) (n : Int) (hn : n < z) : Calls Try.prog 17 #[.pointer (some ⟨g, 0, none⟩), .int .i64 n] w fun e w' => e = .returned (.bool false) ∧ w = w' := by
  have c0 := h.cell 0
  have c1 := h.cell 1
  go_enter Try.func17, Try.ntmps17
  go_wp2
  go_ret
  exact ⟨rfl, rfl⟩
theorem due_off {w : World} {g : Nat} {z : Int} (h : Tm w g z false) (n : Int) : Calls Try.prog 17 #[.pointer (some ⟨g, 0, none⟩), .int .i64 n] w fun e w' => e = .returned (.bool false) ∧ w = w' := by
  have c0 := h.cell 0
  have c1 := h.cell 1
  go_enter Try.func17, Try.ntmps17
  go_wp2
  go_ret
  exact ⟨rfl, rfl⟩
theorem left_off {w : World} {g : Nat} {z : Int} (h : Tm w g z false) (n : Int) : Calls Try.prog 19 #[.pointer (some ⟨g, 0, none⟩), .int .i64 n] w fun e w' => e = .returned (.int .i64 (-1)) ∧ w = w' := by
  have c0 := h.cell 0
  have c1 := h.cell 1
  go_enter Try.func19, Try.ntmps19
  go_wp2
  go_ret
  exact ⟨rfl, rfl⟩
theorem left_past {w : World} {g : Nat} {z : Int} (h : Tm w g z true) (n : Int) (hn : z ≤ n) : Calls Try.prog 19 #[.pointer (some ⟨g, 0, none⟩), .int .i64 n] w fun e w' => e = .returned (.int .i64 0) ∧ w = w' := by
  have c0 := h.cell 0
  have c1 := h.cell 1
  go_enter Try.func19, Try.ntmps19
  go_wp2
  go_ret
  exact ⟨rfl, rfl⟩
theorem left_till {w : World} {g : Nat} {z : Int} (h : Tm w g z true) (n : Int) (hn : n < z) (w1 : (Lit.int .i64 n).wf = true) (w2 : (Lit.int .i64 z).wf = true) : Calls Try.prog 19 #[.pointer (some ⟨g, 0, none⟩), .int .i64 n] w fun e w' => e = .returned (.int .i64 (min (z - n) 9223372036854775807)) ∧ w = w' := by
  have c0 := h.cell 0
  have c1 := h.cell 1
  have b1 := bounds_i64 w1
  have b2 := bounds_i64 w2
  have e : Hid (IntKind.u64.wrap (IntKind.u64.wrap z - IntKind.u64.wrap n) = z - n) := by
    show _ = _
    rw [IntKind.wrap_u64, IntKind.wrap_u64, IntKind.wrap_u64]; omega
  go_enter Try.func19, Try.ntmps19
  go_wp2
  all_goals go_ret
  all_goals
    refine ⟨ret_int ?_, rfl⟩
    have h8 : IntKind.u64.wrap (IntKind.u64.wrap z - IntKind.u64.wrap n) = z - n := e.out
    clear e
    unfold wrap64
    omega
end Go.Proofs.Ytepemmommldbeaa.TM
