/- commonslaw8.alive. No condition. -/
import Derived.Test.YtacogpogplionaaDkRef
namespace Go.Proofs.Ytacogpogplionaa.DK
set_option maxRecDepth 100000
open Go.RowKit Go.Proofs.Ytacogpogplionaa.MI
set_option linter.unusedVariables false
set_option linter.unusedSimpArgs false

theorem zeros_blk {w : World} {b : Nat} (h : Blk w b 5 (zeroCells 64)) : (convert 37 9 (.slice (some ⟨b, 0, none⟩) 64 64)).run Try.prog w = .ok (.string zsec) w := by
  refine text_of (l := List.replicate 64 0) ⟨h.lt, fun j x hx => ?_⟩ 64 64 (by simp)
  refine ⟨?_, h.frozen j⟩
  rw [h.cell]
  have hj : j < 64 := by
    rcases Nat.lt_or_ge j 64 with h | h
    · exact h
    · rw [List.getElem?_eq_none (by simpa using h)] at hx; cases hx
  rw [List.getElem?_replicate, if_pos hj] at hx
  injection hx with hx
  subst hx
  simp [zeroCells, madeCells, hj, Value.cells, Nat.mod_one]
abbrev dA1 : Dk := admitK (newK 4) 1 1
abbrev dA2 : Dk := writeK dA1 1 1 0 (sameT 97 2)
abbrev dA3 : Dk := cutK dA2 [0, 1]
abbrev dA4 : Dk := restoreK dA3
theorem vA1 : admitE (newK 4) 1 1 = 0 := by kernel_rfl
theorem vA2 : writeE dA1 1 1 0 (sameT 97 2) = 0 := by kernel_rfl
theorem vA3 : cutN dA2 = 2 := by kernel_rfl
theorem vA4 : readT dA4 0 2 = zsec ++ sameT 97 1 := by decide +kernel
theorem vA5 : readE dA4 0 2 = 0 := by kernel_rfl
theorem vA6 : dA4.last = 1 := by kernel_rfl
theorem vA7 : writeE dA4 1 2 0 (sameT 97 1) = 34 := by kernel_rfl
end Go.Proofs.Ytacogpogplionaa.DK

