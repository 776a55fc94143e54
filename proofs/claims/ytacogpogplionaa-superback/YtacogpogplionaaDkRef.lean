/- The disk: calls that refuse turn nothing. No condition. -/
import Derived.Test.YtacogpogplionaaDkFill
namespace Go.Proofs.Ytacogpogplionaa.DK
set_option maxRecDepth 100000
open Go.RowKit Go.Proofs.Ytacogpogplionaa.MI
set_option linter.unusedVariables false
set_option linter.unusedSimpArgs false
section
variable {w w' : World} {B g N : Nat} {p : Pl} {D : Dk}
/-- Write, where it refuses: nothing turns. -/
theorem write_ref (h : DiskAt w B g p N D) (n e q : Int) (b : ByteArray) (hsz : b.size ≤ 1000000) (hN : N ≤ 100000000) (hno : ¬ (mayK D n = 0 ∧ argB b = true ∧ admK D n e = 0 ∧ thereK D q ((b.size / 64 : Nat) : Int) = true)) :
    Calls Try.prog 42 #[.pointer (some ⟨g, 0, none⟩), .int .i64 n, .int .u64 e, .int .i64 q, .string b] w fun e' w' => e' = .returned (.int .i64 (writeE D n e q b)) ∧ w' = w := by
  have km := may_any h n
  have hq : (b.size : Int).tdiv 64 = ((b.size / 64 : Nat) : Int) := by rw [Int.tdiv_eq_ediv_of_nonneg (by omega)]; omega
  have hm : (b.size : Int).tmod 64 = ((b.size % 64 : Nat) : Int) := by rw [Int.tmod_eq_emod_of_nonneg (by omega)]; omega
  by_cases hm0 : mayK D n = 0
  · rw [hm0] at km
    have hin := may_in hm0
    by_cases ha : argB b = true
    · have hB : 64 ≤ b.size ∧ b.size / 64 ≤ 16 ∧ b.size % 64 = 0 := by unfold argB at ha; simp at ha; omega
      rw [hB.2.2] at hm
      obtain ⟨c, hc⟩ : ∃ c, b.size / 64 = c := ⟨_, rfl⟩
      have hbs : b.size = c * 64 := by omega
      rw [hc] at hq hno
      have hc1 : 1 ≤ c := by omega
      have hc2 : c ≤ 16 := by omega
      have kd := admits_any h n e hin
      by_cases hd : admK D n e = 0
      · rw [hd] at kd
        have kt := there_any h q ((c : Nat) : Int)
        cases ht : thereK D q ((c : Nat) : Int)
        · have r1 : writeE D n e q b = 30 := by unfold writeE; rw [if_pos hm0, if_pos ha, if_pos hd, hc, ht]; rfl
          rw [r1]
          rw [ht] at kt
          clear h r1 hno hd ha hB hc hm0 ht
          go_enter Try.func42, Try.ntmps42
          go_wp2_with (first
            | (go_at_call 38; refine km.mono ?_; rintro e w0 ⟨rfl, rfl⟩)
            | (go_at_call 56; refine kd.mono ?_; rintro e w0 ⟨rfl, rfl⟩)
            | (go_at_call 45; refine kt.mono ?_; rintro e w0 ⟨rfl, rfl⟩))
          go_ret
          exact ⟨rfl, rfl⟩
        · exact absurd ⟨hm0, ha, hd, ht⟩ hno
      · have ha' : admK D n e = 34 := by unfold admK at hd ⊢; split at hd <;> simp_all
        have r1 : writeE D n e q b = 34 := by unfold writeE; rw [if_pos hm0, if_pos ha, if_neg hd]
        rw [r1]
        rw [ha'] at kd
        clear h r1 hno hd ha hB hc hm0 ha'
        go_enter Try.func42, Try.ntmps42
        go_wp2_with (first
          | (go_at_call 38; refine km.mono ?_; rintro e w0 ⟨rfl, rfl⟩)
          | (go_at_call 56; refine kd.mono ?_; rintro e w0 ⟨rfl, rfl⟩))
        go_ret
        exact ⟨rfl, rfl⟩
    · have r1 : writeE D n e q b = 1 := by unfold writeE; rw [if_pos hm0, if_neg ha]
      rw [r1]
      have hcs : b.size / 64 < 1 ∨ (1 ≤ b.size / 64 ∧ 16 < b.size / 64) ∨ (1 ≤ b.size / 64 ∧ b.size / 64 ≤ 16 ∧ b.size % 64 ≠ 0) := by unfold argB at ha; simp at ha; omega
      obtain ⟨c, hc⟩ : ∃ c, b.size / 64 = c := ⟨_, rfl⟩
      obtain ⟨m, hmm⟩ : ∃ m, b.size % 64 = m := ⟨_, rfl⟩
      have hcb : c ≤ 1000000 := by omega
      have hcb2 : (c : Int) ≤ 1000000 := by omega
      rw [hc] at hq hcs
      rw [hmm] at hm hcs
      clear h r1 hno ha hc hmm hm0
      rcases hcs with h1 | ⟨h1, h2⟩ | ⟨h1, h2, h3⟩
      · have b1 : decide ((c : Int) < 1) = true := by simp; omega
        go_enter Try.func42, Try.ntmps42
        go_wp2_with (go_at_call 38; refine km.mono ?_; rintro e w0 ⟨rfl, rfl⟩)
        go_ret
        exact ⟨rfl, rfl⟩
      · have b1 : decide ((c : Int) < 1) = false := by simp; omega
        have b2 : decide (16 < (c : Int)) = true := by simp; omega
        go_enter Try.func42, Try.ntmps42
        go_wp2_with (go_at_call 38; refine km.mono ?_; rintro e w0 ⟨rfl, rfl⟩)
        go_ret
        exact ⟨rfl, rfl⟩
      · have b1 : decide ((c : Int) < 1) = false := by simp; omega
        have b2 : decide (16 < (c : Int)) = false := by simp; omega
        have b3 : ((m : Int) != 0) = true := by simp; omega
        go_enter Try.func42, Try.ntmps42
        go_wp2_with (go_at_call 38; refine km.mono ?_; rintro e w0 ⟨rfl, rfl⟩)
        go_ret
        exact ⟨rfl, rfl⟩
  · have r1 : writeE D n e q b = mayK D n := by unfold writeE; rw [if_neg hm0]
    rw [r1]
    obtain ⟨v, hv⟩ : ∃ v, mayK D n = v := ⟨_, rfl⟩
    rw [hv] at km hm0 ⊢
    have b1 : (v != 0) = true := by simpa using hm0
    clear r1 hm0 h hv hno hm hq
    go_enter Try.func42, Try.ntmps42
    go_wp2_with (go_at_call 38; refine km.mono ?_; rintro e w0 ⟨rfl, rfl⟩)
    go_ret
    exact ⟨rfl, rfl⟩
theorem refused {D : Dk} {n e q : Int} {b : ByteArray} (h : writeE D n e q b ≠ 0) (h2 : writeE D n e q b ≠ 14) : ¬ (mayK D n = 0 ∧ argB b = true ∧ admK D n e = 0 ∧ thereK D q ((b.size / 64 : Nat) : Int) = true) := by
  rintro ⟨h3, h4, h5, h6⟩
  unfold writeE at h h2
  rw [if_pos h3, if_pos h4, if_pos h5, h6] at h h2
  cases hg : goesB D
  · rw [hg] at h; exact h rfl
  · rw [hg] at h2; exact h2 rfl
theorem writeK_refused {D : Dk} {n e q : Int} {b : ByteArray} (h : ¬ (mayK D n = 0 ∧ argB b = true ∧ admK D n e = 0 ∧ thereK D q ((b.size / 64 : Nat) : Int) = true)) : writeK D n e q b = D := by unfold writeK; rw [if_neg h]
end
theorem own_write_ref {w0 W : World} {g N : Nat} {D : Dk} (h : Own w0 g N D W) (n e q : Int) (b : ByteArray) (hsz : b.size ≤ 1000000) (hN : N ≤ 10000000) (hno : ¬ (mayK D n = 0 ∧ argB b = true ∧ admK D n e = 0 ∧ thereK D q ((b.size / 64 : Nat) : Int) = true)) :
    Calls Try.prog 42 #[.pointer (some ⟨g, 0, none⟩), .int .i64 n, .int .u64 e, .int .i64 q, .string b] W fun e' w' => e' = .returned (.int .i64 (writeE D n e q b)) ∧ w' = W := by
  obtain ⟨p, h1, h2⟩ := h
  exact write_ref h1 n e q b hsz (by omega) hno
end Go.Proofs.Ytacogpogplionaa.DK
