/- commonslaw2.alive. No condition. -/
import Derived.Test.YtacogpogplionaaStampSum
namespace Go.Proofs.Ytacogpogplionaa.SM
set_option maxRecDepth 100000
open Go.RowKit
set_option linter.unusedVariables false

theorem crc9 : sumL [49, 50, 51, 52, 53, 54, 55, 56, 57] = 3421780262 := by decide +kernel
theorem ext_front (a b : ByteArray) : (a ++ b).extract 0 a.size = a := ByteArray.extract_append_eq_left rfl
theorem ext_back (a b : ByteArray) : (a ++ b).extract a.size (a ++ b).size = b := ByteArray.extract_append_eq_right rfl (by simp)
theorem open_seal (s : ByteArray) : 4 ≤ (sealT s).size ∧ (sealT s).size = s.size + 4 ∧ fits (sealT s) = true ∧ tailT (sealT s) = s := by
  have h4 := fourT_size (sumT s)
  have hz : (sealT s).size = s.size + 4 := by unfold sealT; simp [h4]; omega
  have hh : headT (sealT s) = WI.fourT (sumT s) := by
    have := ext_front (WI.fourT (sumT s)) s
    rw [h4] at this
    exact this
  have ht : tailT (sealT s) = s := by
    have := ext_back (WI.fourT (sumT s)) s
    rw [h4] at this
    exact this
  exact ⟨by omega, hz, by unfold fits; rw [hh, ht]; simp, ht⟩
theorem read_stamp (s : ByteArray) (n : Nat) (h1 : 4 ≤ n) (h3 : s.size ≤ n - 4) : (stampT s n).size = (n - 4) + 4 ∧ (padT s n).size = n - 4 ∧ fitsR (stampT s n) = true ∧ (stampT s n).extract 0 (n - 4) = padT s n := by
  have h4 := fourT_size (sumT (padT s n))
  have hp : (padT s n).size = n - 4 := by unfold padT; simp [zerosT_size]; omega
  have hz : (stampT s n).size = (n - 4) + 4 := by unfold stampT; simp [h4, hp]
  have hf : frontT (stampT s n) = padT s n := by
    have := ext_front (padT s n) (WI.fourT (sumT (padT s n)))
    unfold frontT
    rw [hz, show n - 4 + 4 - 4 = (padT s n).size by omega]
    exact this
  have hb : backT (stampT s n) = WI.fourT (sumT (padT s n)) := by
    have := ext_back (padT s n) (WI.fourT (sumT (padT s n)))
    unfold backT
    rw [show (stampT s n).size - 4 = (padT s n).size by omega]
    exact this
  refine ⟨hz, hp, by unfold fitsR; rw [hf, hb]; simp, ?_⟩
  rw [← hf]
  unfold frontT
  rw [hz]
  rfl
def Quiet (w : World) (e : Ending) (w' : World) : Prop := e = .returned (.bool true) ∧ Below w.heap.size w w'
abbrev tABC : ByteArray := ByteArray.mk #[97, 98, 99]
abbrev tA : ByteArray := ByteArray.mk #[97]
theorem of_alive (w : World) : Calls Try.prog 34 #[.slice (some ⟨w.heap.size, 0, none⟩) 2 2] (w.alloc (.cells #[.string (ByteArray.mk #[49, 50, 51, 52]), .string (ByteArray.mk #[53, 54, 55, 56, 57])] 9)) fun e w' =>
    e = .returned (.int .u32 3421780262) ∧ w.alloc (.cells #[.string (ByteArray.mk #[49, 50, 51, 52]), .string (ByteArray.mk #[53, 54, 55, 56, 57])] 9) = w' := by
  have h := of_any (some ⟨w.heap.size, 0, none⟩) 2 2 [ByteArray.mk #[49, 50, 51, 52], ByteArray.mk #[53, 54, 55, 56, 57]] _ (Lies.of_blk (Blk.new w 9 #[.string (ByteArray.mk #[49, 50, 51, 52]), .string (ByteArray.mk #[53, 54, 55, 56, 57])])) (by decide) (fun x hx => by
    have : x = ByteArray.mk #[49, 50, 51, 52] ∨ x = ByteArray.mk #[53, 54, 55, 56, 57] := by simpa using hx
    rcases this with rfl | rfl <;> decide)
  rw [show allB [ByteArray.mk #[49, 50, 51, 52], ByteArray.mk #[53, 54, 55, 56, 57]] = [49, 50, 51, 52, 53, 54, 55, 56, 57] from rfl, crc9] at h
  exact h
end Go.Proofs.Ytacogpogplionaa.SM
