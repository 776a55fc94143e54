/- RingNone: of a nil ring: the statement proved; no condition. -/
import Derived.Test.YthnlfgogibjbnaaRingAlive
import Derived.Test.YthnlfgogibjbnaaRingNilI
namespace Go.Proofs.Ythnlfgogibjbnaa.ringNone
open Go.RowKit

theorem walk (v k : Int) (w : World) (wv : (Lit.int .i64 v).wf = true) (wk : (Lit.int .i64 k).wf = true) :
    Calls Try.prog 6 #[.int .i64 v, .int .i64 k] w fun e w' => e = .returned (.bool true) ∧ Below w.heap.size w w' := by
  go_enter Try.func6, Try.ntmps6
  go_wp2_with (first
    | (go_at_call 10; refine (RI.alive_any _).mono ?_; rintro e w1 ⟨rfl, hb⟩)
    | (go_at_call 13; refine (RI.nil_pop _).mono ?_; rintro e w' ⟨rfl, rfl⟩)
    | (go_at_call 26; refine (RI.nil_peek _ _).mono ?_; rintro e w' ⟨rfl, rfl⟩)
    | (go_at_call 12; refine (RI.nil_push _ _ _ (by decide) _).mono ?_; rintro e w' ⟨rfl, rfl⟩)
    | (go_at_call 14; refine (RI.nil_len _).mono ?_; rintro e w' ⟨rfl, rfl⟩)
    | (go_at_call 15; refine (RI.nil_room _).mono ?_; rintro e w' ⟨rfl, rfl⟩)
    | (go_at_call 27; refine (RI.nil_clear _).mono ?_; rintro e w' ⟨rfl, rfl⟩)
    | (go_at_call 22; refine (RI.nil_drop _ _).mono ?_; rintro e w' ⟨rfl, rfl⟩)
    | (go_at_call 24; refine (RI.nil_list _).mono ?_; rintro e w' ⟨rfl, rfl⟩)
    | (go_at_call 25; refine (RI.nil_set _ _ _).mono ?_; rintro e w' ⟨rfl, rfl⟩))
  go_ret
  exact ⟨rfl, belowAlloc hb hb.size _⟩
end Go.Proofs.Ythnlfgogibjbnaa.ringNone
