/- sum.Stamp. No condition. -/
import Derived.Test.YtacogpogplionaaReadSum
namespace Go.Proofs.Ytacogpogplionaa.SM
set_option maxRecDepth 100000
open Go.RowKit
set_option linter.unusedVariables false

def zerosT (k : Nat) : ByteArray := ⟨(Lib.repeatL [0] k).toArray⟩
/-- A text and zeros behind it, n - 4 bytes. -/
def padT (s : ByteArray) (n : Nat) : ByteArray := s ++ zerosT (n - 4 - s.size)
def stampT (s : ByteArray) (n : Nat) : ByteArray := padT s n ++ WI.fourT (sumT (padT s n))

theorem stamp_arg (s : ByteArray) (n : Int) (h : n < 4 ∨ 60000 < n) (w : World) : Calls Try.prog 19 #[.string s, .int .i64 n] w fun e w' => e = .returned (.tuple #[.string ByteArray.empty, .int .i64 1]) ∧ w = w' := by
  by_cases h1 : n < 4
  · go_enter Try.func19, Try.ntmps19
    go_wp2
    go_ret2
    exact ⟨rfl, rfl⟩
  · have h2 : 60000 < n := by omega
    go_enter Try.func19, Try.ntmps19
    go_wp2
    go_ret2
    exact ⟨rfl, rfl⟩
theorem stamp_long (s : ByteArray) (n : Int) (h1 : ¬ n < 4) (h2 : ¬ 60000 < n) (h3 : n - 4 < (s.size : Int)) (w : World) : Calls Try.prog 19 #[.string s, .int .i64 n] w fun e w' => e = .returned (.tuple #[.string ByteArray.empty, .int .i64 2]) ∧ w = w' := by
  go_enter Try.func19, Try.ntmps19
  go_wp2
  go_ret2
  exact ⟨rfl, rfl⟩
theorem zerosT_size (k : Nat) : (zerosT k).size = k := by
  unfold zerosT
  simp [ByteArray.size, Lib.repeatL_length]
theorem stamp_ok (s : ByteArray) (n : Nat) (h1 : 4 ≤ n) (h2 : n ≤ 60000) (h3 : s.size ≤ n - 4) (w : World) : Calls Try.prog 19 #[.string s, .int .i64 (n : Int)] w fun e w' => e = .returned (.tuple #[.string (stampT s n), .int .i64 0]) ∧ Below w.heap.size w w' := by
  obtain ⟨k, hk⟩ : ∃ k : Nat, n - 4 - s.size = k := ⟨_, rfl⟩
  have hk2 : (n : Int) - 4 - (s.size : Int) = (k : Int) := by omega
  have hrep := Try.strings_Repeat (ByteArray.mk #[0]) k w (by omega) (by show 1 * k ≤ _; omega)
  have hrep2 : Calls Try.prog 32 #[.string (ByteArray.mk #[0]), .int .i64 ((n : Int) - 4 - (s.size : Int))] w fun e w' => e = .returned (.string (zerosT k)) ∧ Below w.heap.size w w' := by
    rw [hk2]; exact hrep
  have hsz := zerosT_size k
  obtain ⟨p, hp⟩ : ∃ p, s ++ zerosT k = p := ⟨_, rfl⟩
  have hps : p.size = s.size + k := by rw [← hp]; simp [hsz]
  have hpl : p.size ≤ 60000 := by omega
  have hbb := sumL_b p.data.toList
  have hpad : stampT s n = p ++ WI.fourT (sumT p) := by unfold stampT padT; rw [hk, hp]
  have hfz := fourT_size (sumL p.data.toList)
  have hkb : k ≤ 60000 := by omega
  have hsb : s.size ≤ 60000 := by omega
  have HP := Lib.hid hpad
  have HK := Lib.hid hk
  have HPS := Lib.hid hps
  have c1 : ¬ (n : Int) < 4 := by omega
  have c2 : ¬ (60000 : Int) < (n : Int) := by omega
  have c3 : ¬ (n : Int) - 4 < (s.size : Int) := by omega
  clear hrep hk hk2 hpad hps
  go_enter Try.func19, Try.ntmps19
  go_wp2_with (first
    | (go_at_call 32; refine hrep2.mono ?_; rintro e w1 ⟨rfl, hw1⟩)
    | (go_at_call 34; refine (of_one p (by unfold maxLen; omega) _).mono ?_; rintro e w' ⟨rfl, rfl⟩)
    | (go_at_call 33; refine (WI.four_any _ hbb.1 hbb.2 _).mono ?_; rintro e w2 ⟨rfl, hw2⟩))
  go_ret2
  refine ⟨by rw [HP.out]; rfl, hw1.trans ((((Below.refl _ _).alloc (Nat.le_refl _) _).trans (hw2.mono (by simp))).mono hw1.size)⟩
end Go.Proofs.Ytacogpogplionaa.SM
