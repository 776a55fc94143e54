/- RecMost: the walk. No condition. -/
import Derived.Test.YtmfbggdoejcpiaaRec12
namespace Go.Proofs.Ytmfbggdoejcpiaa.recMost
open Go.RowKit Go.Proofs.Ytmfbggdoejcpiaa.SM Go.Proofs.Ytmfbggdoejcpiaa.RC
set_option linter.unusedVariables false

set_option maxHeartbeats 4000000 in
theorem walk (a : Int) (w : World) (g0 : (Lit.int .i64 a).wf = true) :
    Calls Try.prog 4 #[.int .i64 a] w fun e w' => e = .returned (.bool true) ∧ Below w.heap.size w w' := by
  have hba := bounds_i64 g0
  have ka := fun W => RC.alive_any W
  by_cases c1 : a < 8
  · go_enter Try.func4, Try.ntmps4
    go_wp2_with (go_at_call 8; refine (ka _).mono ?_; rintro e w1 ⟨rfl, hb⟩)
    exact end_ret (t := 2) (v := .bool true) (by kernel_rfl) rfl rfl ⟨rfl, hb⟩
  by_cases c2 : 256 < a
  · go_enter Try.func4, Try.ntmps4
    go_wp2_with (go_at_call 8; refine (ka _).mono ?_; rintro e w1 ⟨rfl, hb⟩)
    exact end_ret (t := 2) (v := .bool true) (by kernel_rfl) rfl rfl ⟨rfl, hb⟩
  have km := fun W => most_any a (by omega) W
  obtain ⟨_, f2, f3, f4⟩ := mostUp_facts ((a - 1) / 2) 60 0 (by omega) (by omega) (.inl rfl)
  rw [show mostUp ((a - 1) / 2) 60 0 = mostN a from rfl] at f2 f3 f4
  have h0 : secsI (0 + 1) = 3 := by decide +kernel
  obtain ⟨n, hn⟩ : ∃ n, mostN a = n := ⟨_, rfl⟩
  rw [hn] at km f2 f3 f4
  have hn1 : 1 ≤ n := by
    rcases Nat.eq_zero_or_pos n with h | h
    · rw [h] at f4
      rcases f4 with f4 | f4
      · cases f4
      · rw [show ((0 : Nat) : Int) + 1 = 0 + 1 from rfl, h0] at f4; omega
    · exact h
  have f3' : secsI (n : Int) ≤ (a - 1) / 2 := by rcases f3 with h | h; exact absurd h (by omega); exact h
  have s0 : ∀ k : Int, 0 ≤ secsI k ∧ secsI k ≤ 1000 := fun k => by unfold secsI; split <;> omega
  have hs1 := s0 n
  have hs2 := s0 ((n : Int) + 1)
  have ks1 := fun W => sectors_any (n : Int) W
  have ks2 := fun W => sectors_any ((n : Int) + 1) W
  obtain ⟨S1, hS1⟩ : ∃ S, secsI (n : Int) = S := ⟨_, rfl⟩
  obtain ⟨S2, hS2⟩ : ∃ S, secsI ((n : Int) + 1) = S := ⟨_, rfl⟩
  rw [hS1] at ks1 f3' hs1
  rw [hS2] at ks2 f4 hs2
  have e1 : IntKind.i64.wrap ((n : Int) + 1) = (n : Int) + 1 := IntWalk.i64_in _ (by omega)
  have e2 : IntKind.i64.wrap (a - 1) = a - 1 := IntWalk.i64_in _ (by omega)
  have e3 : IntKind.i64.wrap (2 * S1) = 2 * S1 := IntWalk.i64_in _ (by omega)
  have e4 : IntKind.i64.wrap (2 * S2) = 2 * S2 := IntWalk.i64_in _ (by omega)
  have d1 : decide ((1 : Int) ≤ (n : Int)) = true := by simp; omega
  have d2 : decide ((n : Int) ≤ 60) = true := by simp; omega
  have d3 : decide (2 * S1 ≤ a - 1) = true := by simp; omega
  by_cases c3 : n = 60
  · have d4 : ((n : Int) == 60) = true := by simp; omega
    clear hS1 hS2 hn f3 f4 s0 c3
    go_enter Try.func4, Try.ntmps4
    go_wp2_with (first
      | (go_at_call 13; refine (km _).mono ?_; rintro e w1 ⟨rfl, hb⟩; have B1 := Lib.hid hb; clear hb)
      | (go_at_call 8; refine (ka _).mono ?_; rintro e w2 ⟨rfl, hb⟩; have B2 := Lib.hid (belowThen B1.out hb); clear hb)
      | (go_at_call 11; with_reducible refine (ks1 _).mono ?_; rintro e w3 ⟨rfl, rfl⟩))
    exact end_ret (t := 2) (v := .bool true) (by kernel_rfl) rfl rfl ⟨rfl, B2.out⟩
  · have d4 : ((n : Int) == 60) = false := by simp; omega
    have d5 : decide (a - 1 < 2 * S2) = true := by
      rcases f4 with h | h
      · exact absurd h c3
      · simp; omega
    clear hS1 hS2 hn f3 f4 s0 c3
    go_enter Try.func4, Try.ntmps4
    go_wp2_with (first
      | (go_at_call 13; refine (km _).mono ?_; rintro e w1 ⟨rfl, hb⟩; have B1 := Lib.hid hb; clear hb)
      | (go_at_call 8; refine (ka _).mono ?_; rintro e w2 ⟨rfl, hb⟩; have B2 := Lib.hid (belowThen B1.out hb); clear hb)
      | (go_at_call 11; with_reducible refine (ks1 _).mono ?_; rintro e w3 ⟨rfl, rfl⟩)
      | (go_at_call 11; with_reducible refine (ks2 _).mono ?_; rintro e w4 ⟨rfl, rfl⟩))
    exact end_ret (t := 2) (v := .bool true) (by kernel_rfl) rfl rfl ⟨rfl, B2.out⟩
end Go.Proofs.Ytmfbggdoejcpiaa.recMost
