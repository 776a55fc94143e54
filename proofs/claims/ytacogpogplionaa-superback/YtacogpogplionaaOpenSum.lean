/- sum.Open and the document's. No condition. -/
import Derived.Test.YtacogpogplionaaSeal
import Derived.Deep.RegionHeld3
namespace Go.Proofs.Ytacogpogplionaa.SM
set_option maxRecDepth 100000
open Go.RowKit
set_option linter.unusedVariables false

def headT (b : ByteArray) : ByteArray := b.extract 0 4
def tailT (b : ByteArray) : ByteArray := b.extract 4 b.size

theorem of_blk (s : ByteArray) (hs : s.size ≤ maxLen) {W : World} {g : Nat} (h : Blk W g 9 #[.string s]) : Calls Try.prog 34 #[.slice (some ⟨g, 0, none⟩) 1 1] W fun e w' => e = .returned (.int .u32 (sumT s)) ∧ W = w' := by
  have h := of_any (some ⟨g, 0, none⟩) 1 1 [s] W (Lies.of_blk (cs := #[.string s]) h) (by decide) (fun x hx => by
    obtain rfl : x = s := by simpa using hx
    exact hs)
  have e : allB [s] = s.data.toList := by simp [allB]
  rw [e] at h
  exact h
theorem newThen {w w2 : World} {o : Obj} (h : Below (w.alloc o).drew.heap.size (w.alloc o).drew w2) : Below w.heap.size w w2 := by
  have h0 : Below w.heap.size w (w.alloc o).drew := ((Below.refl _ _).alloc (Nat.le_refl _) _).drew
  exact h0.trans (h.mono h0.size)
theorem clone_any (s : ByteArray) (hs : s.size ≤ 1000000) (w : World) : Calls Try.prog 35 #[.string s] w fun e w' => e = .returned (.string s) ∧ Below w.heap.size w w' := by
  go_enter Try.func35, Try.ntmps35
  go_wp2_with (go_at_call 52; refine (Try.stringslite_Clone s _ (by omega)).mono ?_; rintro e w1 ⟨rfl, hb⟩)
  go_ret
  exact ⟨rfl, hb⟩
/-- What Open tells of four bytes or more. -/
def fits (b : ByteArray) : Bool := (headT b).toList == (WI.fourT (sumT (tailT b))).toList
end Go.Proofs.Ytacogpogplionaa.SM
