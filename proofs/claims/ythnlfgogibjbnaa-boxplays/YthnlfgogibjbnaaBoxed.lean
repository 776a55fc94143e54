/- commonslaw3.boxed: true, nothing that was there is turned. No condition. -/
import Derived.Test.YthnlfgogibjbnaaBoxI
namespace Go.Proofs.Ythnlfgogibjbnaa.BX
open Go.RowKit
set_option linter.unusedVariables false

theorem boxed_any (w : World) : Calls Try.prog 28 #[] w fun e w' => e = .returned (.bool true) ∧ Below w.heap.size w w' := by
  go_enter Try.func28, Try.ntmps28
  go_wp2_with fail
  refine (new_any _ _).mono ?_
  rintro e w1 ⟨rfl, h1, k1⟩
  have b1 := k1.belowW
  rw [show RI.roomOf 1 = 1 from rfl] at h1
  go_wp2_with fail
  refine (send_room 5 h1 (by simp)).mono ?_
  rintro e w2 ⟨rfl, h2, k2⟩
  have b2 := h1.after b1 k2
  go_wp2_with fail
  refine (send_full 6 h2 (by simp)).mono ?_
  rintro e w3 ⟨rfl, h3, k3⟩
  have b3 := h2.after b2 k3
  go_wp2_with fail
  refine (take_cons (xs := []) h3).mono ?_
  rintro e w4 ⟨rfl, h4, k4⟩
  have b4 := h3.after b3 k4
  go_wp2_with fail
  refine (take_open h4).mono ?_
  rintro e w5 ⟨rfl, rfl⟩
  go_wp2_with fail
  go_ret
  exact ⟨rfl, b4⟩
end Go.Proofs.Ythnlfgogibjbnaa.BX
