/- RingPlays: the walk, whatever comes in. No condition. -/
import Derived.Test.YthnlfgogibjbnaaGreatRingPlays
namespace Go.Proofs.YthnlfgogibjbnaaGreat.ringPlays
set_option maxRecDepth 100000
open Go.RowKit Go.Proofs.YthnlfgogibjbnaaGreat.RB
set_option linter.unusedVariables false
theorem walk (room : Int) (zero : Bool) (a0 : Option Addr) (len0 cap0 : Nat) (os : List OpN) (w : World) (g0 : (Lit.int .i64 room).wf = true) (h : OpsIs w a0 len0 cap0 os) : Calls Tryz.prog 3 #[.int .i64 room, .bool zero, .slice a0 len0 cap0] w fun e w' => e = .returned (.bool true) ∧ Below w.heap.size w w' := by
  by_cases hl : 100 < len0
  · exact plays_long w room zero a0 len0 cap0 hl
  · exact plays_go w room zero a0 len0 cap0 os h (by omega)
end Go.Proofs.YthnlfgogibjbnaaGreat.ringPlays
