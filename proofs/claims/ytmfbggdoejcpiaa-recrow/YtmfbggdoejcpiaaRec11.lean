/- commonslaw11: One, alive. No condition. -/
import Derived.Test.YtmfbggdoejcpiaaRec10
import Derived.Test.YtmfbggdoejcpiaaZeros
namespace Go.Proofs.Ytmfbggdoejcpiaa.RC
open Go.RowKit Go.Proofs.Ytmfbggdoejcpiaa.WI Go.Proofs.Ytmfbggdoejcpiaa.SM
set_option linter.unusedVariables false
set_option linter.unusedSimpArgs false

def d3 : ByteArray := ⟨((List.replicate 96 (0 : UInt8)).set 0 3).toArray⟩
theorem d3_size : d3.size = 96 := by decide +kernel
def im3 : Im := ⟨3, 4, d3⟩
set_option maxHeartbeats 4000000 in
theorem one_3 (w : World) : Calls Try.prog 17 #[.int .i64 3, .int .u64 4] w fun x w' => x = .returned (iagg im3) ∧ Below w.heap.size w w' := by
  have hmk : ∀ W : World, (Instr.makeSlice 35 (.int .i64 96) (.int .i64 96)).run Try.prog W = .ok (.slice (some ⟨W.heap.size, 0, none⟩) 96 96) (W.alloc (.cells (zeroCells 96) 5)) := zeros_make 96 (by omega)
  have hbn := Blk.new w TIm #[.int .i64 0, .int .u64 0, .string ⟨#[]⟩]
  have hb0 := (Below.refl _ w).alloc (Nat.le_refl _) (.cells #[.int .i64 0, .int .u64 0, .string ⟨#[]⟩] TIm)
  obtain ⟨W0, hW0⟩ : ∃ W0, w.alloc (.cells #[.int .i64 0, .int .u64 0, .string ⟨#[]⟩] TIm) = W0 := ⟨_, rfl⟩
  rw [hW0] at hbn hb0
  obtain ⟨r0, hr0⟩ : ∃ r, w.heap.size = r := ⟨_, rfl⟩
  rw [hr0] at hbn
  have hz := zeros_cells 96 W0
  have hb1 : Below W0.heap.size W0 (W0.alloc (.cells (zeroCells 96) 5)) := (Below.refl _ W0).alloc (Nat.le_refl _) _
  obtain ⟨W1, hW1⟩ : ∃ W1, W0.alloc (.cells (zeroCells 96) 5) = W1 := ⟨_, rfl⟩
  have hmk0 := hmk W0
  rw [hW1] at hz hb1 hmk0
  obtain ⟨g, hg⟩ : ∃ g, W0.heap.size = g := ⟨_, rfl⟩
  have hgr : r0 < g := by have := hbn.lt; omega
  rw [hg] at hz hb1 hmk0
  have hz3 := hz.set_ 0 (by simp) 3
  have hb3 : Below g W0 (W1.setCell ⟨g, 0, none⟩ (.int .u8 ((3 : UInt8).toNat : Int))) := hb1.setCell (p := ⟨g, 0, none⟩) (Nat.le_refl _) _
  have h00 : W1.cell? ⟨g, 0, none⟩ = some (.int .u8 0) := (hz.2 0 0 rfl).1
  have f00 : W1.frozen? ⟨g, 0, none⟩ = false := (hz.2 0 0 rfl).2
  have hcv := text_of hz3 96 96 (by simp)
  rw [show (((3 : UInt8).toNat : Nat) : Int) = 3 from rfl] at hb3 hcv
  rw [show (⟨((List.replicate 96 (0 : UInt8)).set 0 3).toArray⟩ : ByteArray) = d3 from rfl] at hcv
  obtain ⟨W2, hW2⟩ : ∃ W2, W1.setCell ⟨g, 0, none⟩ (.int .u8 3) = W2 := ⟨_, rfl⟩
  rw [hW2] at hb3 hcv
  have hbr : Blk W2 r0 TIm #[.int .i64 0, .int .u64 0, .string ⟨#[]⟩] := hbn.below hb3 hgr
  have r0' : W2.cell? ⟨r0, 0, none⟩ = some (.int .i64 0) := hbr.cell 0
  have r1' : W2.cell? ⟨r0, 1, none⟩ = some (.int .u64 0) := hbr.cell 1
  have r2' : W2.cell? ⟨r0, 2, none⟩ = some (.string ⟨#[]⟩) := hbr.cell 2
  have f0 := hbr.frozen 0
  have f1 := hbr.frozen 1
  have f2 := hbr.frozen 2
  have HBR := Lib.hid hbr
  have HB : Hid (Below w.heap.size w W2) := Lib.hid (hb0.trans (hb3.mono (by rw [← hg]; exact hb0.size)))
  have HW0 := Lib.hid hW0
  have HR0 := Lib.hid hr0
  have HW2 := Lib.hid hW2
  obtain ⟨D, hD⟩ : ∃ D, d3 = D := ⟨_, rfl⟩
  have e3 : iagg im3 = .agg #[.int .i64 3, .int .u64 4, .string D] := by rw [← hD]; rfl
  rw [e3]
  rw [hD] at hcv
  clear hz hb1 hz3 hb3 hbr hbn hb0 hW0 hr0 hW1 hW2 hmk hg hD e3
  go_enter Try.func17, Try.ntmps17
  go_upto_region 1 with fail
  rw [show w.alloc (.cells #[.int .i64 0, .int .u64 0, .string ⟨#[]⟩] TIm) = W0 from HW0.out, HR0.out]
  go_upto_region 3 with fail
  rw [HW2.out]
  go_wp2_with fail
  have b4 := ((HBR.out.set_ 0 (.int .i64 3)).set_ 1 (.int .u64 4)).set_ 2 (.string D)
  have hr0 := HR0.out
  have hE : Below w.heap.size w ((((W2.setCell ⟨r0, 0, none⟩ (.int .i64 3)).setCell ⟨r0, 1, none⟩ (.int .u64 4)).setCell ⟨r0, 2, none⟩ (.string D))) := ((HB.out.setCell (p := ⟨r0, 0, none⟩) (by show w.heap.size ≤ r0; omega) _).setCell (p := ⟨r0, 1, none⟩) (by show w.heap.size ≤ r0; omega) _).setCell (p := ⟨r0, 2, none⟩) (by show w.heap.size ≤ r0; omega) _
  have d0 : ((((W2.setCell ⟨r0, 0, none⟩ (.int .i64 3)).setCell ⟨r0, 1, none⟩ (.int .u64 4)).setCell ⟨r0, 2, none⟩ (.string D))).cell? ⟨r0, 0, none⟩ = some (.int .i64 3) := b4.cell 0
  have d1 : ((((W2.setCell ⟨r0, 0, none⟩ (.int .i64 3)).setCell ⟨r0, 1, none⟩ (.int .u64 4)).setCell ⟨r0, 2, none⟩ (.string D))).cell? ⟨r0, 1, none⟩ = some (.int .u64 4) := b4.cell 1
  have d2 : ((((W2.setCell ⟨r0, 0, none⟩ (.int .i64 3)).setCell ⟨r0, 1, none⟩ (.int .u64 4)).setCell ⟨r0, 2, none⟩ (.string D))).cell? ⟨r0, 2, none⟩ = some (.string D) := b4.cell 2
  exact bodyPost_ret (v := .agg #[.int .i64 3, .int .u64 4, .string D]) (by simp [results, Try.results17, go_sem, d0, d1, d2]) rfl ⟨rfl, hE⟩
/-- What the call 'alive' tells. -/
def Quiet (w : World) (e : Ending) (w' : World) : Prop := e = .returned (.bool true) ∧ Below w.heap.size w w'
theorem im3_ok : ∀ x ∈ [im3], ImOk x := fun x hx => by
  obtain rfl : x = im3 := by simpa using hx
  exact ⟨by decide, by decide, by show d3.size ≤ _; rw [d3_size]; omega⟩
theorem rise3 : riseB [im3] 1 = true := by
  have h : rightB im3 = true := by unfold rightB; simp [im3, d3_size]
  show (riseB [im3] 0 && rightB im3 && (0 == 0 || _)) = true
  rw [h]
  rfl
theorem fits3 : Fits 1 2 [im3] := ⟨by decide, by decide, by decide, by decide, rise3⟩
theorem ims3 (W : World) : Ims (W.alloc (.cells #[.int .i64 3, .int .u64 4, .string d3] TIm)) (some ⟨W.heap.size, 0, none⟩) 1 1 [im3] := by
  refine ⟨by omega, by unfold maxLen; omega, rfl, im3_ok, fun _ => ⟨W.heap.size, 0, rfl, by simp, fun i x hx j u hu => ?_⟩⟩
  have hi : i = 0 := by
    rcases Nat.lt_or_ge i 1 with h | h
    · omega
    · rw [List.getElem?_eq_none (by simpa using h)] at hx; cases hx
  subst hi
  obtain rfl : im3 = x := by simpa using hx
  have hb : Blk (W.alloc (.cells #[.int .i64 3, .int .u64 4, .string d3] TIm)) W.heap.size TIm #[.int .i64 3, .int .u64 4, .string d3] := Blk.new _ _ _
  have := hb.cell (0 + (0 * 3 + j))
  rw [this, show 0 + (0 * 3 + j) = j by omega]
  rw [← hu]
  simp [ival, im3]
end Go.Proofs.Ytmfbggdoejcpiaa.RC
