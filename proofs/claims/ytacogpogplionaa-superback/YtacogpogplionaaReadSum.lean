/- sum.Read, sum.Stamp. No condition. -/
import Derived.Test.YtacogpogplionaaOpenSum
namespace Go.Proofs.Ytacogpogplionaa.SM
set_option maxRecDepth 100000
open Go.RowKit
set_option linter.unusedVariables false

def frontT (b : ByteArray) : ByteArray := b.extract 0 (b.size - 4)
def backT (b : ByteArray) : ByteArray := b.extract (b.size - 4) b.size
/-- What Read tells of four bytes or more. -/
def fitsR (b : ByteArray) : Bool := (backT b).toList == (WI.fourT (sumT (frontT b))).toList

theorem read_short (b : ByteArray) (hb : b.size < 4) (w : World) : Calls Try.prog 20 #[.string b] w fun e w' => e = .returned (.tuple #[.string ByteArray.empty, .int .i64 5]) ∧ w = w' := by
  go_enter Try.func20, Try.ntmps20
  go_wp2
  go_ret2
  exact ⟨rfl, rfl⟩
theorem read_bad (b : ByteArray) (m : Nat) (hb : b.size = m + 4) (hs : b.size ≤ 1000000) (hf : fitsR b = false) (w : World) : Calls Try.prog 20 #[.string b] w fun e w' => e = .returned (.tuple #[.string ByteArray.empty, .int .i64 6]) ∧ Below w.heap.size w w' := by
  have h4 : (b.size : Int) - 4 = (m : Int) := by omega
  have hm0 : (0 : Int) ≤ (m : Int) := by omega
  have hm1 : (m : Int) ≤ (b.size : Int) := by omega
  have hts : (b.extract 0 m).size = m := by simp; omega
  obtain ⟨v, hv⟩ : ∃ v, sumT (b.extract 0 m) = v := ⟨_, rfl⟩
  have hbb := sumL_b (b.extract 0 m).data.toList
  have hof : ∀ {W : World} {g : Nat}, Blk W g 9 #[.string (b.extract 0 m)] → Calls Try.prog 34 #[.slice (some ⟨g, 0, none⟩) 1 1] W fun e w' => e = .returned (.int .u32 v) ∧ W = w' := fun h => hv ▸ of_blk (b.extract 0 m) (by rw [hts]; unfold maxLen; omega) h
  unfold fitsR backT frontT at hf
  rw [show b.size - 4 = m by omega] at hf
  rw [show sumL (b.extract 0 m).data.toList = v from hv] at hbb
  rw [hv] at hf
  have HB := Lib.hid hb
  have HT := Lib.hid hts
  clear hv hb hts
  go_enter Try.func20, Try.ntmps20
  go_wp2_with fail
  go_region_held3 (fun _ => True) (trivial) (first
    | (go_at_call 34; refine (hof (Blk.drew (Blk.new w _ _))).mono ?_; rintro e w' ⟨rfl, rfl⟩)
    | (go_at_call 33; refine (WI.four_any _ hbb.1 hbb.2 _).mono ?_; rintro e w2 ⟨rfl, hw2⟩))
  go_wp2_with fail
  go_ret2
  exact ⟨rfl, newThen hw2⟩
theorem read_ok (b : ByteArray) (m : Nat) (hb : b.size = m + 4) (hs : b.size ≤ 1000000) (hf : fitsR b = true) (w : World) : Calls Try.prog 20 #[.string b] w fun e w' => e = .returned (.tuple #[.string (b.extract 0 m), .int .i64 0]) ∧ Below w.heap.size w w' := by
  have h4 : (b.size : Int) - 4 = (m : Int) := by omega
  have hm0 : (0 : Int) ≤ (m : Int) := by omega
  have hm1 : (m : Int) ≤ (b.size : Int) := by omega
  have hts : (b.extract 0 m).size = m := by simp; omega
  have hcl := clone_any (b.extract 0 m) (by omega)
  obtain ⟨v, hv⟩ : ∃ v, sumT (b.extract 0 m) = v := ⟨_, rfl⟩
  have hbb := sumL_b (b.extract 0 m).data.toList
  have hof : ∀ {W : World} {g : Nat}, Blk W g 9 #[.string (b.extract 0 m)] → Calls Try.prog 34 #[.slice (some ⟨g, 0, none⟩) 1 1] W fun e w' => e = .returned (.int .u32 v) ∧ W = w' := fun h => hv ▸ of_blk (b.extract 0 m) (by rw [hts]; unfold maxLen; omega) h
  unfold fitsR backT frontT at hf
  rw [show b.size - 4 = m by omega] at hf
  rw [show sumL (b.extract 0 m).data.toList = v from hv] at hbb
  rw [hv] at hf
  have HB := Lib.hid hb
  have HT := Lib.hid hts
  clear hv hb hts
  go_enter Try.func20, Try.ntmps20
  go_wp2_with fail
  go_region_held3 (fun _ => True) (trivial) (first
    | (go_at_call 34; refine (hof (Blk.drew (Blk.new w _ _))).mono ?_; rintro e w' ⟨rfl, rfl⟩)
    | (go_at_call 33; refine (WI.four_any _ hbb.1 hbb.2 _).mono ?_; rintro e w2 ⟨rfl, hw2⟩))
  go_wp2_with (go_at_call 35; refine (hcl _).mono ?_; rintro e w3 ⟨rfl, hw3⟩)
  go_ret2
  have h2 : Below w.heap.size w w2 := newThen hw2
  exact ⟨rfl, h2.trans (hw3.mono h2.size)⟩
end Go.Proofs.Ytacogpogplionaa.SM
