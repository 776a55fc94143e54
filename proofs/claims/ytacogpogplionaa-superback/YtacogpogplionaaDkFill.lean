/- commonslaw8.fill: a text of one byte. No condition. -/
import Derived.Test.YtacogpogplionaaDk11
namespace Go.Proofs.Ytacogpogplionaa.DK
set_option maxRecDepth 100000
open Go.RowKit Go.Proofs.Ytacogpogplionaa.MI
set_option linter.unusedVariables false
set_option linter.unusedSimpArgs false

theorem fill_step (x : UInt8) (m k : Nat) (h : k < m) : (List.replicate k x ++ List.replicate (m - k) 0).set k x = List.replicate (k + 1) x ++ List.replicate (m - (k + 1)) 0 := by
  obtain ⟨d, rfl⟩ : ∃ d, m = k + 1 + d := ⟨m - k - 1, by omega⟩
  rw [show k + 1 + d - k = d + 1 by omega, show k + 1 + d - (k + 1) = d by omega, List.replicate_succ, List.replicate_succ']
  rw [List.set_append_right _ _ (by simp)]
  simp
def FillRel (x : UInt8) (m : Nat) (w : World) (k : Nat) (wr : World) : Prop := Cells wr w.heap.size (List.replicate k x ++ List.replicate (m - k) 0) ∧ Below w.heap.size w wr
end Go.Proofs.Ytacogpogplionaa.DK
