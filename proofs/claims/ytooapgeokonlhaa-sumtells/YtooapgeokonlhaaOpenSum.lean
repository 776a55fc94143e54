/- sum.Open and the document's. No condition. -/
import Derived.Test.YtooapgeokonlhaaSeal
import Derived.Deep.RegionHeld3
namespace Go.Proofs.Ytooapgeokonlhaa.SM
open Go.RowKit
set_option linter.unusedVariables false

def headT (b : ByteArray) : ByteArray := b.extract 0 4
def tailT (b : ByteArray) : ByteArray := b.extract 4 b.size

theorem of_blk (s : ByteArray) (hs : s.size ≤ maxLen) {W : World} {g : Nat} (h : Blk W g 9 #[.string s]) : Calls Try.prog 16 #[.slice (some ⟨g, 0, none⟩) 1 1] W fun e w' => e = .returned (.int .u32 (sumT s)) ∧ W = w' := by
  have h := of_any (some ⟨g, 0, none⟩) 1 1 [s] W (Lies.of_blk (cs := #[.string s]) h) (by decide) (fun x hx => by
    obtain rfl : x = s := by simpa using hx
    exact hs)
  have e : allB [s] = s.data.toList := by simp [allB]
  rw [e] at h
  exact h
theorem open_short (b : ByteArray) (hb : b.size < 4) (w : World) : Calls Try.prog 10 #[.string b] w fun e w' => e = .returned (.tuple #[.string ByteArray.empty, .int .i64 5]) ∧ w = w' := by
  go_enter Try.func10, Try.ntmps10
  go_wp2
  go_ret2
  exact ⟨rfl, rfl⟩
theorem newThen {w w2 : World} {o : Obj} (h : Below (w.alloc o).drew.heap.size (w.alloc o).drew w2) : Below w.heap.size w w2 := by
  have h0 : Below w.heap.size w (w.alloc o).drew := ((Below.refl _ _).alloc (Nat.le_refl _) _).drew
  exact h0.trans (h.mono h0.size)
theorem clone_any (s : ByteArray) (hs : s.size ≤ 1000000) (w : World) : Calls Try.prog 23 #[.string s] w fun e w' => e = .returned (.string s) ∧ Below w.heap.size w w' := by
  go_enter Try.func23, Try.ntmps23
  go_wp2_with (go_at_call 29; refine (Try.stringslite_Clone s _ (by omega)).mono ?_; rintro e w1 ⟨rfl, hb⟩)
  go_ret
  exact ⟨rfl, hb⟩
/-- What Open tells of four bytes or more. -/
def fits (b : ByteArray) : Bool := (headT b).toList == (WI.fourT (sumT (tailT b))).toList
theorem open_bad (b : ByteArray) (hb : 4 ≤ b.size) (hs : b.size ≤ 1000000) (hf : fits b = false) (w : World) : Calls Try.prog 10 #[.string b] w fun e w' => e = .returned (.tuple #[.string ByteArray.empty, .int .i64 6]) ∧ Below w.heap.size w w' := by
  have h4 : (4 : Int) ≤ (b.size : Int) := by omega
  have hts : (b.extract 4 b.size).size = b.size - 4 := by simp
  obtain ⟨v, hv⟩ : ∃ v, sumT (b.extract 4 b.size) = v := ⟨_, rfl⟩
  have hbb := sumL_b (b.extract 4 b.size).data.toList
  have hof : ∀ {W : World} {g : Nat}, Blk W g 9 #[.string (b.extract 4 b.size)] → Calls Try.prog 16 #[.slice (some ⟨g, 0, none⟩) 1 1] W fun e w' => e = .returned (.int .u32 v) ∧ W = w' := fun h => hv ▸ of_blk (b.extract 4 b.size) (by rw [hts]; unfold maxLen; omega) h
  unfold fits headT tailT at hf
  rw [show sumL (b.extract 4 b.size).data.toList = v from hv] at hbb
  rw [hv] at hf
  clear hv
  go_enter Try.func10, Try.ntmps10
  go_wp2_with fail
  go_region_held3 (fun _ => True) (trivial) (first
    | (go_at_call 16; refine (hof (Blk.drew (Blk.new w _ _))).mono ?_; rintro e w' ⟨rfl, rfl⟩)
    | (go_at_call 22; refine (WI.four_any _ hbb.1 hbb.2 _).mono ?_; rintro e w2 ⟨rfl, hw2⟩))
  go_wp2_with fail
  go_ret2
  exact ⟨rfl, newThen hw2⟩
theorem open_ok (b : ByteArray) (hb : 4 ≤ b.size) (hs : b.size ≤ 1000000) (hf : fits b = true) (w : World) : Calls Try.prog 10 #[.string b] w fun e w' => e = .returned (.tuple #[.string (tailT b), .int .i64 0]) ∧ Below w.heap.size w w' := by
  have h4 : (4 : Int) ≤ (b.size : Int) := by omega
  have hts : (b.extract 4 b.size).size = b.size - 4 := by simp
  have hcl := clone_any (b.extract 4 b.size) (by omega)
  obtain ⟨v, hv⟩ : ∃ v, sumT (b.extract 4 b.size) = v := ⟨_, rfl⟩
  have hbb := sumL_b (b.extract 4 b.size).data.toList
  have hof : ∀ {W : World} {g : Nat}, Blk W g 9 #[.string (b.extract 4 b.size)] → Calls Try.prog 16 #[.slice (some ⟨g, 0, none⟩) 1 1] W fun e w' => e = .returned (.int .u32 v) ∧ W = w' := fun h => hv ▸ of_blk (b.extract 4 b.size) (by rw [hts]; unfold maxLen; omega) h
  unfold fits headT tailT at hf
  rw [show sumL (b.extract 4 b.size).data.toList = v from hv] at hbb
  rw [hv] at hf
  clear hv
  go_enter Try.func10, Try.ntmps10
  go_wp2_with fail
  go_region_held3 (fun _ => True) (trivial) (first
    | (go_at_call 16; refine (hof (Blk.drew (Blk.new w _ _))).mono ?_; rintro e w' ⟨rfl, rfl⟩)
    | (go_at_call 22; refine (WI.four_any _ hbb.1 hbb.2 _).mono ?_; rintro e w2 ⟨rfl, hw2⟩))
  go_wp2_with (go_at_call 23; refine (hcl _).mono ?_; rintro e w3 ⟨rfl, hw3⟩)
  go_ret2
  have h2 : Below w.heap.size w w2 := newThen hw2
  exact ⟨rfl, h2.trans (hw3.mono h2.size)⟩
end Go.Proofs.Ytooapgeokonlhaa.SM
