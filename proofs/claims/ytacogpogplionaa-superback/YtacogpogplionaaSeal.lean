/- sum.Seal, Open, Read; commonsref1.Seal, Open, Read. No condition. -/
import Derived.Test.YtacogpogplionaaSumOf
import Derived.Test.YtacogpogplionaaFour
import Derived.Test.YtacogpogplionaaShelf
namespace Go.Proofs.Ytacogpogplionaa.SM
set_option maxRecDepth 100000
open Go.RowKit
set_option linter.unusedVariables false

abbrev sumT (s : ByteArray) : Int := sumL s.data.toList
theorem sumL_b (l : List UInt8) : 0 ≤ sumL l ∧ sumL l ≤ 4294967295 := by
  have := crcL_r (x := 4294967295) (by unfold U32; omega) l
  unfold U32 at this
  unfold sumL
  omega
def sealT (s : ByteArray) : ByteArray := WI.fourT (sumT s) ++ s

theorem fourT_size (v : Int) : (WI.fourT v).size = 4 := by
  unfold WI.fourT strOfNums
  simp [ByteArray.size, WI.lowB]
theorem of_one (s : ByteArray) (hs : s.size ≤ maxLen) (w : World) : Calls Try.prog 34 #[.slice (some ⟨w.heap.size, 0, none⟩) 1 1] (w.alloc (.cells #[.string s] 9)) fun e w' => e = .returned (.int .u32 (sumT s)) ∧ w.alloc (.cells #[.string s] 9) = w' := by
  have h := of_any (some ⟨w.heap.size, 0, none⟩) 1 1 [s] (w.alloc (.cells #[.string s] 9)) (Lies.of_blk (cs := #[.string s]) (Blk.new _ _ _)) (by decide) (fun x hx => by
    obtain rfl : x = s := by simpa using hx
    exact hs)
  have e : allB [s] = s.data.toList := by simp [allB]
  rw [e] at h
  exact h

end Go.Proofs.Ytacogpogplionaa.SM
