/- commonslaw16.alive: true, nothing that was there is turned. No condition. -/
import Derived.Test.YtepemmommldbeaaClockStep
namespace Go.Proofs.Ytepemmommldbeaa.CL
open Go.RowKit
set_option linter.unusedVariables false

/-- A clock that was made here, behind i steps of one. -/
def Ones (W : World) (i : Nat) (w : World) : Prop := ∃ F, ClockIs w W.heap.size W.heap.size (i : Int) (i : Int) (List.replicate i 1) false F ∧ Below W.heap.size W w
theorem Ones.step {W w w' : World} {i : Nat} {F : Nat → Prop} (hi : i < 8) (h : ClockIs w W.heap.size W.heap.size (i : Int) (i : Int) (List.replicate i 1) false F) (hb : Below W.heap.size W w)
    (ho : StepOut w W.heap.size W.heap.size ((i : Int) + clampI 1) ((i : Int) + 1) (nextW (List.replicate i 1) (clampI 1)) (false || badW (nextW (List.replicate i 1) (clampI 1))) F w') : Ones W (i + 1) w' := by
  obtain ⟨F', h', hk, hg⟩ := ho
  have e1 : clampI 1 = 1 := by decide
  have e2 : nextW (List.replicate i 1) 1 = List.replicate (i + 1) 1 := by
    unfold nextW
    rw [if_neg (by simp; omega), List.replicate_succ']
  have e3 : badW (List.replicate (i + 1) 1) = false := by
    have : i = 0 ∨ i = 1 ∨ i = 2 ∨ i = 3 ∨ i = 4 ∨ i = 5 ∨ i = 6 ∨ i = 7 := by omega
    rcases this with rfl | rfl | rfl | rfl | rfl | rfl | rfl | rfl <;> decide
  rw [e1, e2, e3] at h'
  exact ⟨F', by simpa using h', hk.after hb h.ge hb.size⟩

theorem alive_step {w : World} {B g : Nat} {F : Nat → Prop} (h : ClockIs w B g 8 8 (List.replicate 8 1) false F) : Calls Try.prog 12 #[.pointer (some ⟨g, 0, none⟩), .int .i64 4] w fun e w' => e = .returned (.int .i64 12) ∧ StepOut w B g 12 9 [1, 1, 1, 1, 1, 1, 1, 4] true F w' :=
  step_any h (by omega) (by omega) (by omega) (by omega) 4

def Quiet (w : World) (e : Ending) (w' : World) : Prop := e = .returned (.bool true) ∧ Below w.heap.size w w'

theorem alive_any (W : World) : Calls Try.prog 9 #[] W (Quiet W) := by
  go_enter Try.func9, Try.ntmps9
  go_wp2_with (go_at_call 10; refine (new_any _).mono ?_; rintro e w1 ⟨rfl, hr⟩; have R1 := Lib.hid hr; clear hr)
  go_loopw [2] (fun i wr => ∃ k : Nat, i = .int .i64 (k : Int) ∧ k ≤ 8 ∧ Ones W k wr) (fun i _ => 8 - (intOf i).toNat)
  case atStart => exact ⟨0, rfl, by omega, _, R1.out.1, R1.out.2.belowW⟩
  case round =>
    obtain ⟨k, rfl, hk, ho⟩ := hrel
    clear R1 w1
    obtain ⟨F, hC, hB⟩ := ho
    have hge := hC.ge
    by_cases hlt : k < 8
    · go_wp2_with (go_at_call 12; refine (step_any hC (by omega) (by omega) (by omega) (by omega) 1).mono ?_; rintro e w2 ⟨rfl, hr⟩; have R2 := Lib.hid (Ones.step hlt hC hB hr); clear hr)
      go_roundw
      case rel => exact ⟨k + 1, by go_num, by omega, R2.out⟩
      case measure => simp [intOf]; omega
    · obtain rfl : k = 8 := by omega
      replace hC : ClockIs wr W.heap.size W.heap.size 8 8 (List.replicate 8 1) false F := hC
      go_wp2_with (first
        | (go_at_call 11; refine (kept_any hC).mono ?_; rintro e w' ⟨rfl, rfl⟩)
        | (go_at_call 12; refine (alive_step hC).mono ?_; rintro e w2 ⟨rfl, F2, hC2, hk2, hg2⟩; clear hC)
        | (go_at_call 11; refine (kept_any hC2).mono ?_; rintro e w' ⟨rfl, rfl⟩)
        | (go_at_call 15; refine (real_any hC2).mono ?_; rintro e w' ⟨rfl, rfl⟩))
      go_ret
      exact ⟨rfl, hk2.after hB hge hB.size⟩
end Go.Proofs.Ytepemmommldbeaa.CL
