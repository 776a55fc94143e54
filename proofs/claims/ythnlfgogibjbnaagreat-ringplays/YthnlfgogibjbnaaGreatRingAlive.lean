/- commonslaw3.alive: true, nothing that was there is turned. No condition. -/
import Derived.Test.YthnlfgogibjbnaaGreatRingI
namespace Go.Proofs.YthnlfgogibjbnaaGreat.RI
set_option maxRecDepth 100000
open Go.RowKit
set_option linter.unusedVariables false

def Quiet (w : World) (e : Ending) (w' : World) : Prop := e = .returned (.bool true) ∧ Below w.heap.size w w'

theorem alive_any (w : World) : Calls Tryz.prog 4 #[] w (Quiet w) := by
  go_enter Tryz.func4, Tryz.ntmps4
  go_wp2_with (first
    | (go_at_call 5; refine (new_any _ _).mono ?_; rintro e w1 ⟨rfl, hR, hK⟩; rw [show roomOf 2 = 2 from rfl] at hR)
    | (go_at_call 8; go_loud (refine (push_any (hR.alloc _) _ 3 3 (by decide) (by omega) [1, 2, 3] (Lies.of_blk (cs := #[.int .i64 1, .int .i64 2, .int .i64 3]) (Blk.new _ _ _))).mono ?_); rintro e w2 ⟨rfl, a2, c2, hR2, hK2, hG2⟩; replace hR2 : RingAt val 29 3 w2 w.heap.size w.heap.size 2 a2 c2 [1, 2] := hR2)
    | (go_at_call 10; go_loud (refine (pop_cons hR2).mono ?_); rintro e w3 ⟨rfl, a3, c3, hR3, hK3, hG3⟩)
    | (go_at_call 14; go_loud (refine (peek_in hR3 0 (by omega) (by simp)).mono ?_); rintro e w' ⟨rfl, rfl⟩)
    | (go_at_call 19; go_loud (refine (room_any hR3).mono ?_); rintro e w' ⟨rfl, n, rfl⟩))
  go_ret
  exact ⟨rfl, belowDrewN (hR2.after ((hR.alloc _).after (hK.belowW.alloc hK.size _) hK2) hK3) _⟩
end Go.Proofs.YthnlfgogibjbnaaGreat.RI
