/- BoxNone: of a nil box: the walk. No condition. -/
import Derived.Test.YthnlfgogibjbnaaBoxed
import Derived.Test.YthnlfgogibjbnaaOpen
namespace Go.Proofs.Ythnlfgogibjbnaa.boxNone
open Go.RowKit
set_option linter.unusedVariables false

theorem walk (v : Int) (w : World) (wv : (Lit.int .i64 v).wf = true) : Calls Try.prog 8 #[.int .i64 v] w fun e w' => e = .returned (.bool true) ∧ Below w.heap.size w w' := by
  go_enter Try.func8, Try.ntmps8
  go_wp2_with (first
    | (go_at_call 28; refine (BX.boxed_any _).mono ?_; rintro e w1 ⟨rfl, hb⟩)
    | (go_at_call 32; refine (BX.take_nil _).mono ?_; rintro e w' ⟨rfl, rfl⟩)
    | (go_at_call 33; refine (BX.send_nil _ _).mono ?_; rintro e w' ⟨rfl, rfl⟩)
    | (go_at_call 34; refine (BX.len_nil _).mono ?_; rintro e w' ⟨rfl, rfl⟩)
    | (go_at_call 31; refine (BX.close_nil _).mono ?_; rintro e w' ⟨rfl, rfl⟩))
  go_ret
  exact ⟨rfl, hb⟩
end Go.Proofs.Ythnlfgogibjbnaa.boxNone
