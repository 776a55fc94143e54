/- The check sum tells one changed byte: plain laws, no program. No condition. -/
import Derived.Test.YtacogpogplionaaCrc
import Derived.Laws.BytesArg
namespace Go.Proofs.Ytacogpogplionaa
set_option maxRecDepth 100000
open Go.RowKit
set_option linter.unusedVariables false

theorem xor_u32 (a b : Nat) (ha : a < 4294967296) (hb : b < 4294967296) : bits .xor .u32 (a : Int) (b : Int) = ((a ^^^ b : Nat) : Int) := by
  have hx : a ^^^ b < 2 ^ 32 := Nat.xor_lt_two_pow (by omega) (by omega)
  show IntKind.u32.wrap ((BitVec.ofInt 32 (a : Int) ^^^ BitVec.ofInt 32 (b : Int)).toNat : Int) = _
  have e1 : (BitVec.ofInt 32 (a : Int)).toNat = a := by rw [BitVec.ofInt_natCast, BitVec.toNat_ofNat]; exact Nat.mod_eq_of_lt (by omega)
  have e2 : (BitVec.ofInt 32 (b : Int)).toNat = b := by rw [BitVec.ofInt_natCast, BitVec.toNat_ofNat]; exact Nat.mod_eq_of_lt (by omega)
  rw [BitVec.toNat_xor, e1, e2]
  simp only [IntKind.wrap, IntKind.bits, IntKind.signed]
  simp
  omega
def stepN (x : Nat) : Nat := if x % 2 = 1 then (x / 2) ^^^ 3988292384 else x / 2
theorem stepI_nat (x : Nat) (h : x < 4294967296) : stepI (x : Int) = (stepN x : Int) ∧ stepN x < 4294967296 := by
  unfold stepI stepN
  by_cases hx : x % 2 = 1
  · rw [if_pos (by omega), if_pos hx]
    have e : ((x : Int) / 2) = ((x / 2 : Nat) : Int) := by omega
    rw [e]
    have : x / 2 ^^^ 3988292384 < 2 ^ 32 := Nat.xor_lt_two_pow (by omega) (by omega)
    exact ⟨xor_u32 (x / 2) 3988292384 (by omega) (by omega), by omega⟩
  · rw [if_neg (by omega), if_neg hx]
    exact ⟨by omega, by omega⟩
theorem top_odd (y : Nat) (h : y < 2147483648) : (y ^^^ 3988292384).testBit 31 = true := by
  rw [Nat.testBit_xor, Nat.testBit_lt_two_pow (show y < 2 ^ 31 by omega)]
  decide
theorem xor_right_inj {a b c : Nat} (h : a ^^^ c = b ^^^ c) : a = b := by
  have := congrArg (· ^^^ c) h
  simpa [Nat.xor_assoc] using this
theorem stepN_inj {x y : Nat} (hx : x < 4294967296) (hy : y < 4294967296) (h : stepN x = stepN y) : x = y := by
  unfold stepN at h
  by_cases ox : x % 2 = 1 <;> by_cases oy : y % 2 = 1
  · rw [if_pos ox, if_pos oy] at h
    have := xor_right_inj h
    omega
  · rw [if_pos ox, if_neg oy] at h
    have t1 := top_odd (x / 2) (by omega)
    rw [h, Nat.testBit_lt_two_pow (show y / 2 < 2 ^ 31 by omega)] at t1
    cases t1
  · rw [if_neg ox, if_pos oy] at h
    have t1 := top_odd (y / 2) (by omega)
    rw [← h, Nat.testBit_lt_two_pow (show x / 2 < 2 ^ 31 by omega)] at t1
    cases t1
  · rw [if_neg ox, if_neg oy] at h
    omega
theorem stepI_inj {x y : Int} (hx : U32 x) (hy : U32 y) (h : stepI x = stepI y) : x = y := by
  unfold U32 at hx hy
  obtain ⟨a, rfl⟩ : ∃ a : Nat, x = (a : Int) := ⟨x.toNat, by omega⟩
  obtain ⟨b, rfl⟩ : ∃ b : Nat, y = (b : Int) := ⟨y.toNat, by omega⟩
  rw [(stepI_nat a (by omega)).1, (stepI_nat b (by omega)).1] at h
  have := stepN_inj (by omega) (by omega) (Int.ofNat.inj h)
  omega
theorem stepsI_inj (n : Nat) {x y : Int} (hx : U32 x) (hy : U32 y) (h : stepsI n x = stepsI n y) : x = y := by
  induction n with
  | zero => exact h
  | succ n ih => exact ih (stepI_inj (stepsI_r n hx) (stepsI_r n hy) h)
theorem xorb {x : Int} (hx : U32 x) (b : UInt8) : bits .xor .u32 x (b.toNat : Int) = ((x.toNat ^^^ b.toNat : Nat) : Int) := by
  unfold U32 at hx
  have := xor_u32 x.toNat b.toNat (by omega) (by have := b.toNat_lt; omega)
  rwa [show ((x.toNat : Nat) : Int) = x by omega] at this
theorem crcB_state {x y : Int} (hx : U32 x) (hy : U32 y) (b : UInt8) (h : crcB x b = crcB y b) : x = y := by
  have h1 := stepsI_inj 8 (bits_u32 _ _ _ (.inl rfl)) (bits_u32 _ _ _ (.inl rfl)) h
  rw [xorb hx, xorb hy] at h1
  have := xor_right_inj (Int.ofNat.inj h1)
  unfold U32 at hx hy
  omega
theorem crcB_byte {x : Int} (hx : U32 x) {b c : UInt8} (h : crcB x b = crcB x c) : b = c := by
  have h1 := stepsI_inj 8 (bits_u32 _ _ _ (.inl rfl)) (bits_u32 _ _ _ (.inl rfl)) h
  rw [xorb hx, xorb hx] at h1
  have h2 := Int.ofNat.inj h1
  rw [Nat.xor_comm, Nat.xor_comm x.toNat] at h2
  exact UInt8.toNat_inj.1 (xor_right_inj h2)
theorem crcL_state (l : List UInt8) {x y : Int} (hx : U32 x) (hy : U32 y) (h : crcL x l = crcL y l) : x = y := by
  induction l generalizing x y with
  | nil => exact h
  | cons b l ih => exact crcB_state hx hy b (ih (crcB_r x b) (crcB_r y b) h)
/-- Where one byte is another one the sum is another one. -/
theorem sumL_set (l : List UInt8) (p : Nat) (hp : p < l.length) (c : UInt8) (hc : c ≠ l[p]) : sumL (l.set p c) ≠ sumL l := by
  intro h
  have h0 : U32 4294967295 := by unfold U32; omega
  have h1 : crcL 4294967295 (l.set p c) = crcL 4294967295 l := by unfold sumL at h; omega
  have e1 : l = l.take p ++ l[p] :: l.drop (p + 1) := by simp
  have e2 : l.set p c = l.take p ++ c :: l.drop (p + 1) := List.set_eq_take_append_cons_drop.trans (by rw [if_pos hp])
  rw [e2] at h1
  conv at h1 => rhs; rw [e1]
  rw [crcL_app, crcL_app] at h1
  have h2 := crcL_state (l.drop (p + 1)) (crcB_r _ _) (crcB_r _ _) h1
  exact hc (crcB_byte (crcL_r h0 _) h2)
end Go.Proofs.Ytacogpogplionaa
