/- 'make([]byte, n)', and a text made of bytes. No condition. -/
import Derived.Test.YtmfbggdoejcpiaaBytes
import Derived.Test.YtmfbggdoejcpiaaWire
import Derived.Test.YtmfbggdoejcpiaaAppend
namespace Go.Proofs.Ytmfbggdoejcpiaa
open Go.RowKit
set_option linter.unusedVariables false
set_option linter.unusedSimpArgs false

theorem infByte : (Try.prog.info? 5).map (fun i => (i.zero, i.size, i.bytes)) = some (some (.int .u8 0), 1, 1) := by kernel_rfl
abbrev zeroCells (k : Nat) : Array Value := madeCells (Value.int .u8 0).cells (k * 1)
theorem zeros_make (k : Nat) (hk : k ≤ 100000) (W : World) : (Instr.makeSlice 35 (.int .i64 (k : Int)) (.int .i64 (k : Int))).run Try.prog W = .ok (.slice (some ⟨W.heap.size, 0, none⟩) k k) (W.alloc (.cells (zeroCells k) 5)) := by
  obtain ⟨i0, hi, hz0, hz1, hz2⟩ := info_parts infByte
  have hr := run_make (P := Try.prog) W 35 5 i0 (.int .u8 0) Try.underlying35 hi hz0 .i64 .i64 (k : Int) (k : Int) (by omega) (by omega) (by rw [hz2]; omega) (by omega)
  rw [hz1] at hr
  simp only [Int.toNat_natCast] at hr
  exact hr
theorem zeros_cells (k : Nat) (W : World) : Cells (W.alloc (.cells (zeroCells k) 5)) W.heap.size (List.replicate k 0) := by
  refine ⟨by simp, fun j x hx => ?_⟩
  have hb : Blk (W.alloc (.cells (zeroCells k) 5)) W.heap.size 5 (zeroCells k) := Blk.new _ _ _
  refine ⟨?_, hb.frozen j⟩
  rw [hb.cell]
  have hj : j < k := by
    rcases Nat.lt_or_ge j k with h | h
    · exact h
    · rw [List.getElem?_eq_none (by simpa using h)] at hx; cases hx
  rw [List.getElem?_replicate, if_pos hj] at hx
  injection hx with hx
  subst hx
  simp [zeroCells, madeCells, hj, Value.cells, Nat.mod_one]
theorem text_of {w : World} {g : Nat} {l : List UInt8} (h : Cells w g l) (n c : Nat) (hn : l.length = n) : (convert 35 9 (.slice (some ⟨g, 0, none⟩) n c)).run Try.prog w = .ok (.string ⟨l.toArray⟩) w :=
  h.str (P := Try.prog) 35 9 5 Try.underlying35 Try.underlying5 Try.underlying9 n c hn
end Go.Proofs.Ytmfbggdoejcpiaa
