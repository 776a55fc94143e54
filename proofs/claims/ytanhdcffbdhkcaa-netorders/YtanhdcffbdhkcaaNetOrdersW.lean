/- NetOrders: the walk, any parameters. No condition. -/
import Derived.Test.YtanhdcffbdhkcaaNetOrders
namespace Go.Proofs.Ytanhdcffbdhkcaa.netOrders
open Go.RowKit Go.Proofs.Ytanhdcffbdhkcaa.RP Go.Proofs.Ytanhdcffbdhkcaa.CM Go.Proofs.Ytanhdcffbdhkcaa.NT Go.Proofs.Ytanhdcffbdhkcaa.netCuts
set_option linter.unusedVariables false

set_option maxHeartbeats 1000000 in
set_option maxRecDepth 100000 in
theorem walk (n k j a b : Int) (w : World) (g0 : (Lit.int .i64 n).wf = true) (g1 : (Lit.int .i64 k).wf = true) (g2 : (Lit.int .i64 j).wf = true) (g3 : (Lit.int .i64 a).wf = true) (g4 : (Lit.int .i64 b).wf = true) :
    Calls Try.prog 3 #[.int .i64 n, .int .i64 k, .int .i64 j, .int .i64 a, .int .i64 b] w fun e w' => e = .returned (.bool true) ∧ Below w.heap.size w w' := by
  by_cases c0 : n < 1
  · clear g0 g1 g2 g3 g4
    go_enter Try.func3, Try.ntmps3
    go_wp2_with (go_at_call 7; refine (alive_any _).mono ?_; rintro e w1 ⟨rfl, hb⟩)
    go_ret
    exact ⟨rfl, hb⟩
  by_cases c1 : 40 < n
  · clear g0 g1 g2 g3 g4
    go_enter Try.func3, Try.ntmps3
    go_wp2_with (go_at_call 7; refine (alive_any _).mono ?_; rintro e w1 ⟨rfl, hb⟩)
    go_ret
    exact ⟨rfl, hb⟩
  by_cases c2 : k < 0
  · clear g0 g1 g2 g3 g4
    go_enter Try.func3, Try.ntmps3
    go_wp2_with (go_at_call 7; refine (alive_any _).mono ?_; rintro e w1 ⟨rfl, hb⟩)
    go_ret
    exact ⟨rfl, hb⟩
  by_cases c3 : n ≤ k
  · clear g0 g1 g2 g3 g4
    go_enter Try.func3, Try.ntmps3
    go_wp2_with (go_at_call 7; refine (alive_any _).mono ?_; rintro e w1 ⟨rfl, hb⟩)
    go_ret
    exact ⟨rfl, hb⟩
  by_cases c4 : j < 0
  · clear g0 g1 g2 g3 g4
    go_enter Try.func3, Try.ntmps3
    go_wp2_with (go_at_call 7; refine (alive_any _).mono ?_; rintro e w1 ⟨rfl, hb⟩)
    go_ret
    exact ⟨rfl, hb⟩
  by_cases c5 : n < j
  · clear g0 g1 g2 g3 g4
    go_enter Try.func3, Try.ntmps3
    go_wp2_with (go_at_call 7; refine (alive_any _).mono ?_; rintro e w1 ⟨rfl, hb⟩)
    go_ret
    exact ⟨rfl, hb⟩
  by_cases c6 : a < 0
  · clear g0 g1 g2 g3 g4
    go_enter Try.func3, Try.ntmps3
    go_wp2_with (go_at_call 7; refine (alive_any _).mono ?_; rintro e w1 ⟨rfl, hb⟩)
    go_ret
    exact ⟨rfl, hb⟩
  by_cases c7 : n ≤ a
  · clear g0 g1 g2 g3 g4
    go_enter Try.func3, Try.ntmps3
    go_wp2_with (go_at_call 7; refine (alive_any _).mono ?_; rintro e w1 ⟨rfl, hb⟩)
    go_ret
    exact ⟨rfl, hb⟩
  by_cases c8 : b < 0
  · clear g0 g1 g2 g3 g4
    go_enter Try.func3, Try.ntmps3
    go_wp2_with (go_at_call 7; refine (alive_any _).mono ?_; rintro e w1 ⟨rfl, hb⟩)
    go_ret
    exact ⟨rfl, hb⟩
  by_cases c9 : n ≤ b
  · clear g0 g1 g2 g3 g4
    go_enter Try.func3, Try.ntmps3
    go_wp2_with (go_at_call 7; refine (alive_any _).mono ?_; rintro e w1 ⟨rfl, hb⟩)
    go_ret
    exact ⟨rfl, hb⟩
  obtain ⟨N, rfl⟩ : ∃ N : Nat, n = (N : Int) := ⟨n.toNat, by omega⟩
  obtain ⟨K, rfl⟩ : ∃ N : Nat, k = (N : Int) := ⟨k.toNat, by omega⟩
  obtain ⟨J, rfl⟩ : ∃ N : Nat, j = (N : Int) := ⟨j.toNat, by omega⟩
  obtain ⟨x, rfl⟩ : ∃ N : Nat, a = (N : Int) := ⟨a.toNat, by omega⟩
  obtain ⟨y, rfl⟩ : ∃ N : Nat, b = (N : Int) := ⟨b.toNat, by omega⟩
  exact main N K J x y w (by omega) (by omega) (by omega) (by omega) (by omega) (by omega)
end Go.Proofs.Ytanhdcffbdhkcaa.netOrders
