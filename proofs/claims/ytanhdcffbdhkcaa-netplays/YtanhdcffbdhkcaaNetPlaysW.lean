/- NetPlays: the walk, whatever comes in. No condition. -/
import Derived.Test.YtanhdcffbdhkcaaNetPlays
namespace Go.Proofs.Ytanhdcffbdhkcaa.netPlays
set_option maxRecDepth 100000
open Go.RowKit Go.Proofs.Ytanhdcffbdhkcaa.RP Go.Proofs.Ytanhdcffbdhkcaa.CM Go.Proofs.Ytanhdcffbdhkcaa.NT Go.Proofs.Ytanhdcffbdhkcaa.NP
theorem walk (zero : Bool) (a0 : Option Addr) (len0 cap0 : Nat) (os : List OpN) (w : World) (h : OpsIs w a0 len0 cap0 os) : Calls Try.prog 5 #[.bool zero, .slice a0 len0 cap0] w fun e w' => e = .returned (.bool true) ∧ Below w.heap.size w w' := by
  by_cases hl : 120 < len0
  · exact plays_long w zero a0 len0 cap0 hl
  · exact plays_go w zero a0 len0 cap0 os h (by omega)
end Go.Proofs.Ytanhdcffbdhkcaa.netPlays
