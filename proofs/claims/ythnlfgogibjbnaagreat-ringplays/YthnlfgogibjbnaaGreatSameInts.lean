/- commonsbook.SameInts of two lists that hold the same: true. No condition. -/
import Derived.Test.YthnlfgogibjbnaaGreatBase
import Derived.Test.YthnlfgogibjbnaaGreatChecked
import Derived.Deep.QuietTactic
import Derived.BigQuiet
import Derived.WalkSpells
import Derived.WalkLawsBesides
namespace Go.Proofs.YthnlfgogibjbnaaGreat.Bk
set_option maxRecDepth 100000
open Go.RowKit
set_option linter.unusedVariables false

theorem same_ints (A B : Option Addr) (n c d : Nat) (xs : List Int) (w : World) (hA : Lies w 1 A n (xs.map (Value.int .i64))) (hB : Lies w 1 B n (xs.map (Value.int .i64))) (hn : n ≤ maxLen) :
    Calls Tryz.prog 17 #[.slice A n c, .slice B n d] w fun e w' => e = .returned (.bool true) ∧ ∃ m, w' = w.drewN m := by
  unfold maxLen at hn
  go_enter Tryz.func17, Tryz.ntmps17
  go_wp2
  go_loopw [5] (fun i wr => ∃ k : Nat, i = .int .i64 (k : Int) ∧ k ≤ n ∧ ∃ m, wr = w.drewN m) (fun i _ => n - (intOf i).toNat)
  case atStart => exact ⟨0, rfl, by omega, 0, rfl⟩
  case round =>
    obtain ⟨k, rfl, hk, m, rfl⟩ := hrel
    by_cases hlt : k < n
    · obtain ⟨ad, u, rfl, hx, hc⟩ := hA.at_ hlt
      obtain ⟨bd, v, rfl, hy, hd⟩ := hB.at_ hlt
      have huv : u = v := by rw [hx] at hy; exact Option.some.inj hy
      subst huv
      have hu : ∃ z, u = .int .i64 z := by
        obtain ⟨z, _, rfl⟩ := List.mem_map.1 (List.mem_of_getElem? hx)
        exact ⟨z, rfl⟩
      obtain ⟨z, rfl⟩ := hu
      clear hx hy hA hB
      go_wp2
      go_quiet (fail)
      go_wp2
      go_roundw
      case rel => exact ⟨k + 1, by go_num, by omega, _, rfl⟩
      case measure => simp [intOf]; omega
    · go_wp2
      go_ret
      exact ⟨rfl, m, rfl⟩
end Go.Proofs.YthnlfgogibjbnaaGreat.Bk
