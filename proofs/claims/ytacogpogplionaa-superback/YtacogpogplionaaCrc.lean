/- The check sum over bytes, as a fold. Plain laws, no program. No condition. -/
import Derived.WalkKit
import Derived.Laws.Bits64
namespace Go.Proofs.Ytacogpogplionaa
set_option maxRecDepth 100000
open Go.RowKit
set_option linter.unusedVariables false

def stepI (x : Int) : Int := if x % 2 = 1 then bits .xor .u32 (x / 2) 3988292384 else x / 2
def stepsI : Nat → Int → Int
  | 0, x => x
  | n + 1, x => stepI (stepsI n x)
def crcB (x : Int) (b : UInt8) : Int := stepsI 8 (bits .xor .u32 x (b.toNat : Int))
def crcL (x : Int) (l : List UInt8) : Int := l.foldl crcB x
def U32 (x : Int) : Prop := 0 ≤ x ∧ x ≤ 4294967295
theorem bits_u32 (op : BinOp) (x y : Int) (h : op = .xor ∨ op = .and ∨ op = .or) : U32 (bits op .u32 x y) := by
  have hw : ∀ n : Int, U32 (IntKind.u32.wrap n) := by
    intro n
    unfold U32
    simp only [IntKind.wrap, IntKind.bits, IntKind.signed]
    simp
    omega
  rcases h with rfl | rfl | rfl <;> exact hw _
theorem stepI_r {x : Int} (h : U32 x) : U32 (stepI x) := by
  unfold stepI
  split
  · exact bits_u32 _ _ _ (.inl rfl)
  · unfold U32 at *; omega
theorem stepsI_r (n : Nat) {x : Int} (h : U32 x) : U32 (stepsI n x) := by
  induction n with
  | zero => exact h
  | succ n ih => exact stepI_r ih
theorem crcB_r (x : Int) (b : UInt8) : U32 (crcB x b) := stepsI_r 8 (bits_u32 _ _ _ (.inl rfl))
theorem crcL_r {x : Int} (h : U32 x) (l : List UInt8) : U32 (crcL x l) := by
  induction l generalizing x with
  | nil => exact h
  | cons b l ih => exact ih (crcB_r x b)
theorem crcL_snoc (x : Int) (l : List UInt8) (b : UInt8) : crcL x (l ++ [b]) = crcB (crcL x l) b := by unfold crcL; simp
theorem crcL_app (x : Int) (l r : List UInt8) : crcL x (l ++ r) = crcL (crcL x l) r := by unfold crcL; simp
def sumL (l : List UInt8) : Int := 4294967295 - crcL 4294967295 l
theorem take_next (s : ByteArray) (k : Nat) (h : k < s.size) : s.data.toList.take (k + 1) = s.data.toList.take k ++ [s[k]] := by
  rw [List.take_succ_eq_append_getElem (by simpa using h)]; rfl
end Go.Proofs.Ytacogpogplionaa
