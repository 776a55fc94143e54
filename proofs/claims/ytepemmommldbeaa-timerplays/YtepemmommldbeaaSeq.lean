/- Whole numbers one behind the other, and 'x & 15' of a number. Plain laws, no program. No condition. -/
import Derived.WalkKit
namespace Go.Proofs.Ytepemmommldbeaa
open Go.RowKit
set_option linter.unusedVariables false

/-- o, o + 1, .., o + n - 1. -/
def seqI (o : Nat) : Nat → List Int
  | 0 => []
  | n + 1 => (o : Int) :: seqI (o + 1) n
theorem seqI_len (o n : Nat) : (seqI o n).length = n := by
  induction n generalizing o with
  | zero => rfl
  | succ n ih => simp [seqI, ih]
theorem seqI_snoc (o n : Nat) : seqI o n ++ [((o + n : Nat) : Int)] = seqI o (n + 1) := by
  induction n generalizing o with
  | zero => rfl
  | succ n ih =>
    show (o : Int) :: (seqI (o + 1) n ++ [((o + (n + 1) : Nat) : Int)]) = (o : Int) :: seqI (o + 1) (n + 1)
    rw [← ih (o + 1)]
    congr 4
    omega
theorem seqI_drop (o n k : Nat) : (seqI o n).drop k = seqI (o + k) (n - k) := by
  induction k generalizing o n with
  | zero => simp
  | succ k ih =>
    cases n with
    | zero => simp [seqI]
    | succ n =>
      show (seqI (o + 1) n).drop k = _
      rw [ih, show o + 1 + k = o + (k + 1) from by omega, show n + 1 - (k + 1) = n - k from by omega]
theorem seqI_get (o n k : Nat) (h : k < n) : (seqI o n).getD k 0 = ((o + k : Nat) : Int) := by
  induction k generalizing o n with
  | zero =>
    cases n with
    | zero => omega
    | succ n => rfl
  | succ k ih =>
    cases n with
    | zero => omega
    | succ n =>
      show (seqI (o + 1) n).getD k 0 = _
      rw [ih (o + 1) n (by omega), show o + 1 + k = o + (k + 1) from by omega]

theorem bits_low (x : Int) (j m : Nat) (hj : j < 63) (hm : m = 2 ^ j - 1) : 0 ≤ bits .and .i64 x (m : Int) ∧ bits .and .i64 x (m : Int) ≤ (m : Int) := by
  have hp : 2 ^ j ≤ 2 ^ 62 := Nat.pow_le_pow_right (by omega) (by omega)
  have hm' : m < 9223372036854775808 := by omega
  show 0 ≤ IntKind.i64.wrap ((BitVec.ofInt 64 x &&& BitVec.ofInt 64 (m : Int)).toNat : Int) ∧ IntKind.i64.wrap ((BitVec.ofInt 64 x &&& BitVec.ofInt 64 (m : Int)).toNat : Int) ≤ (m : Int)
  have h2 : (BitVec.ofInt 64 (m : Int)).toNat = m := by
    rw [BitVec.ofInt_natCast, BitVec.toNat_ofNat]; exact Nat.mod_eq_of_lt (by omega)
  rw [BitVec.toNat_and, h2]
  have hle : (BitVec.ofInt 64 x).toNat &&& m ≤ m := Nat.and_le_right
  rw [IntKind.wrap_i64]
  omega
theorem and15 (x : Int) : 0 ≤ bits .and .i64 x 15 ∧ bits .and .i64 x 15 ≤ 15 := bits_low x 4 15 (by omega) (by omega)
end Go.Proofs.Ytepemmommldbeaa
