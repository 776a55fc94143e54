/- The ring of whole numbers, of a nil receiver. No condition. -/
import Derived.Test.YthnlfgogibjbnaaRingI
namespace Go.Proofs.Ythnlfgogibjbnaa.RI
open Go.RowKit

theorem nil_len (w : World) : Calls Try.prog 14 #[.pointer none] w fun e w' => e = .returned (.int .i64 0) ∧ w = w' := by
  go_enter Try.func14, Try.ntmps14
  go_wp2
  go_ret
  exact ⟨rfl, rfl⟩
theorem nil_room (w : World) : Calls Try.prog 15 #[.pointer none] w fun e w' => e = .returned (.int .i64 0) ∧ w = w' := by
  go_enter Try.func15, Try.ntmps15
  go_wp2
  go_ret
  exact ⟨rfl, rfl⟩
theorem nil_peek (z : Int) (w : World) : Calls Try.prog 26 #[.pointer none, .int .i64 z] w fun e w' => e = .returned (.tuple #[.int .i64 0, .bool false]) ∧ w = w' := by
  by_cases h : z < 0
  · go_enter Try.func26, Try.ntmps26
    go_wp2_with (go_at_call 14; refine (nil_len _).mono ?_; rintro e w' ⟨rfl, rfl⟩)
    go_ret2
    exact ⟨rfl, rfl⟩
  · have h' : 0 ≤ z := by omega
    go_enter Try.func26, Try.ntmps26
    go_wp2_with (go_at_call 14; refine (nil_len _).mono ?_; rintro e w' ⟨rfl, rfl⟩)
    go_ret2
    exact ⟨rfl, rfl⟩
theorem nil_set (z v : Int) (w : World) : Calls Try.prog 25 #[.pointer none, .int .i64 z, .int .i64 v] w fun e w' => e = .returned (.bool false) ∧ w = w' := by
  by_cases h : z < 0
  · go_enter Try.func25, Try.ntmps25
    go_wp2_with (go_at_call 14; refine (nil_len _).mono ?_; rintro e w' ⟨rfl, rfl⟩)
    go_ret
    exact ⟨rfl, rfl⟩
  · have h' : 0 ≤ z := by omega
    go_enter Try.func25, Try.ntmps25
    go_wp2_with (go_at_call 14; refine (nil_len _).mono ?_; rintro e w' ⟨rfl, rfl⟩)
    go_ret
    exact ⟨rfl, rfl⟩
theorem nil_drop (z : Int) (w : World) : Calls Try.prog 22 #[.pointer none, .int .i64 z] w fun e w' => e = .returned (.int .i64 0) ∧ w = w' := by
  by_cases h : z < 0
  · go_enter Try.func22, Try.ntmps22
    go_wp2_with (go_at_call 14; refine (nil_len _).mono ?_; rintro e w' ⟨rfl, rfl⟩)
    go_ret
    exact ⟨rfl, rfl⟩
  · by_cases h1 : 0 < z
    · go_enter Try.func22, Try.ntmps22
      go_wp2_with (go_at_call 14; refine (nil_len _).mono ?_; rintro e w' ⟨rfl, rfl⟩)
      go_ret
      exact ⟨rfl, rfl⟩
    · obtain rfl : z = 0 := by omega
      go_enter Try.func22, Try.ntmps22
      go_wp2_with (go_at_call 14; refine (nil_len _).mono ?_; rintro e w' ⟨rfl, rfl⟩)
      go_ret
      exact ⟨rfl, rfl⟩
theorem nil_pop (w : World) : Calls Try.prog 13 #[.pointer none] w fun e w' => e = .returned (.tuple #[.int .i64 0, .bool false]) ∧ w = w' := by
  go_enter Try.func13, Try.ntmps13
  go_wp2_with (first | (go_at_call 26; refine (nil_peek _ _).mono ?_; rintro e w' ⟨rfl, rfl⟩) | (go_at_call 22; refine (nil_drop _ _).mono ?_; rintro e w' ⟨rfl, rfl⟩))
  go_ret2
  exact ⟨rfl, rfl⟩
theorem nil_clear (w : World) : Calls Try.prog 27 #[.pointer none] w fun e w' => e = .returned (.int .i64 0) ∧ w = w' := by
  go_enter Try.func27, Try.ntmps27
  go_wp2_with (first | (go_at_call 14; refine (nil_len _).mono ?_; rintro e w' ⟨rfl, rfl⟩) | (go_at_call 22; refine (nil_drop _ _).mono ?_; rintro e w' ⟨rfl, rfl⟩))
  go_ret
  exact ⟨rfl, rfl⟩
theorem nil_list (w : World) : Calls Try.prog 24 #[.pointer none] w fun e w' => e = .returned (.slice none 0 0) ∧ w = w' := by
  go_enter Try.func24, Try.ntmps24
  go_wp2
  go_ret
  exact ⟨rfl, rfl⟩
theorem nil_push (A : Option Addr) (m C : Nat) (hm : m ≤ maxLen) (w : World) : Calls Try.prog 12 #[.pointer none, .slice A m C] w fun e w' => e = .returned (.int .i64 0) ∧ w = w' := by
  unfold maxLen at hm
  by_cases h : (0 : Int) < m
  · go_enter Try.func12, Try.ntmps12
    go_wp2_with (go_at_call 15; refine (nil_room _).mono ?_; rintro e w' ⟨rfl, rfl⟩)
    go_ret
    exact ⟨rfl, rfl⟩
  · obtain rfl : m = 0 := by omega
    go_enter Try.func12, Try.ntmps12
    go_wp2_with (go_at_call 15; refine (nil_room _).mono ?_; rintro e w' ⟨rfl, rfl⟩)
    go_ret
    exact ⟨rfl, rfl⟩
end Go.Proofs.Ythnlfgogibjbnaa.RI
