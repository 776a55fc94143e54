/- sum.Seal, Open, Read; commonsref1.Seal, Open, Read. No condition. -/
import Derived.Test.YtooapgeokonlhaaSumOf
import Derived.Test.YtooapgeokonlhaaFour
import Derived.Test.YtooapgeokonlhaaShelf
namespace Go.Proofs.Ytooapgeokonlhaa.SM
open Go.RowKit
set_option linter.unusedVariables false

abbrev sumT (s : ByteArray) : Int := sumL s.data.toList
theorem sumL_b (l : List UInt8) : 0 ≤ sumL l ∧ sumL l ≤ 4294967295 := by
  have := crcL_r (x := 4294967295) (by unfold U32; omega) l
  unfold U32 at this
  unfold sumL
  omega
def sealT (s : ByteArray) : ByteArray := WI.fourT (sumT s) ++ s

theorem fourT_size (v : Int) : (WI.fourT v).size = 4 := by
  unfold WI.fourT strOfNums
  simp [ByteArray.size, WI.lowB]
theorem of_one (s : ByteArray) (hs : s.size ≤ maxLen) (w : World) : Calls Try.prog 16 #[.slice (some ⟨w.heap.size, 0, none⟩) 1 1] (w.alloc (.cells #[.string s] 9)) fun e w' => e = .returned (.int .u32 (sumT s)) ∧ w.alloc (.cells #[.string s] 9) = w' := by
  have h := of_any (some ⟨w.heap.size, 0, none⟩) 1 1 [s] (w.alloc (.cells #[.string s] 9)) (Lies.of_blk (cs := #[.string s]) (Blk.new _ _ _)) (by decide) (fun x hx => by
    obtain rfl : x = s := by simpa using hx
    exact hs)
  have e : allB [s] = s.data.toList := by simp [allB]
  rw [e] at h
  exact h

theorem seal_any (s : ByteArray) (hs : s.size ≤ 1000000) (w : World) : Calls Try.prog 18 #[.string s] w fun e w' => e = .returned (.string (sealT s)) ∧ Below w.heap.size w w' := by
  have hb := sumL_b s.data.toList
  have hz := fourT_size (sumL s.data.toList)
  go_enter Try.func18, Try.ntmps18
  go_wp2_with (first
    | (go_at_call 16; refine (of_one s (by unfold maxLen; omega) _).mono ?_; rintro e w' ⟨rfl, rfl⟩)
    | (go_at_call 22; refine (WI.four_any _ hb.1 hb.2 _).mono ?_; rintro e w2 ⟨rfl, hw2⟩))
  go_ret
  exact ⟨rfl, ((Below.refl _ _).alloc (Nat.le_refl _) _).trans (hw2.mono (by simp))⟩
theorem refseal_any (s : ByteArray) (hs : s.size ≤ 1000000) (w : World) : Calls Try.prog 19 #[.string s] w fun e w' => e = .returned (.string (sealT s)) ∧ Below w.heap.size w w' := by
  have hb := sumL_b s.data.toList
  have hz := fourT_size (sumL s.data.toList)
  go_enter Try.func19, Try.ntmps19
  go_wp2_with (first
    | (go_at_call 17; refine (refsum_any s _ (by unfold maxLen; omega)).mono ?_; rintro e w' ⟨rfl, rfl⟩)
    | (go_at_call 24; refine (WI.reffour_any _ hb.1 hb.2 _).mono ?_; rintro e w2 ⟨rfl, hw2⟩))
  go_ret
  exact ⟨rfl, hw2⟩
end Go.Proofs.Ytooapgeokonlhaa.SM
