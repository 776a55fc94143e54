/- commonslaw2.alive. No condition. -/
import Derived.Test.YtooapgeokonlhaaStampSum
namespace Go.Proofs.Ytooapgeokonlhaa.SM
open Go.RowKit
set_option linter.unusedVariables false

theorem crc9 : sumL [49, 50, 51, 52, 53, 54, 55, 56, 57] = 3421780262 := by decide +kernel
theorem ext_front (a b : ByteArray) : (a ++ b).extract 0 a.size = a := ByteArray.extract_append_eq_left rfl
theorem ext_back (a b : ByteArray) : (a ++ b).extract a.size (a ++ b).size = b := ByteArray.extract_append_eq_right rfl (by simp)
theorem open_seal (s : ByteArray) : 4 ≤ (sealT s).size ∧ (sealT s).size = s.size + 4 ∧ fits (sealT s) = true ∧ tailT (sealT s) = s := by
  have h4 := fourT_size (sumT s)
  have hz : (sealT s).size = s.size + 4 := by unfold sealT; simp [h4]; omega
  have hh : headT (sealT s) = WI.fourT (sumT s) := by
    have := ext_front (WI.fourT (sumT s)) s
    rw [h4] at this
    exact this
  have ht : tailT (sealT s) = s := by
    have := ext_back (WI.fourT (sumT s)) s
    rw [h4] at this
    exact this
  exact ⟨by omega, hz, by unfold fits; rw [hh, ht]; simp, ht⟩
theorem read_stamp (s : ByteArray) (n : Nat) (h1 : 4 ≤ n) (h3 : s.size ≤ n - 4) : (stampT s n).size = (n - 4) + 4 ∧ (padT s n).size = n - 4 ∧ fitsR (stampT s n) = true ∧ (stampT s n).extract 0 (n - 4) = padT s n := by
  have h4 := fourT_size (sumT (padT s n))
  have hp : (padT s n).size = n - 4 := by unfold padT; simp [zerosT_size]; omega
  have hz : (stampT s n).size = (n - 4) + 4 := by unfold stampT; simp [h4, hp]
  have hf : frontT (stampT s n) = padT s n := by
    have := ext_front (padT s n) (WI.fourT (sumT (padT s n)))
    unfold frontT
    rw [hz, show n - 4 + 4 - 4 = (padT s n).size by omega]
    exact this
  have hb : backT (stampT s n) = WI.fourT (sumT (padT s n)) := by
    have := ext_back (padT s n) (WI.fourT (sumT (padT s n)))
    unfold backT
    rw [show (stampT s n).size - 4 = (padT s n).size by omega]
    exact this
  refine ⟨hz, hp, by unfold fitsR; rw [hf, hb]; simp, ?_⟩
  rw [← hf]
  unfold frontT
  rw [hz]
  rfl
def Quiet (w : World) (e : Ending) (w' : World) : Prop := e = .returned (.bool true) ∧ Below w.heap.size w w'
abbrev tABC : ByteArray := ByteArray.mk #[97, 98, 99]
abbrev tA : ByteArray := ByteArray.mk #[97]
theorem alive_pieces : ∃ X Y : ByteArray, (∀ w, Calls Try.prog 18 #[.string (ByteArray.mk #[97, 98, 99])] w fun e w' => e = .returned (.string X) ∧ Below w.heap.size w w') ∧
    (∀ w, Calls Try.prog 10 #[.string X] w fun e w' => e = .returned (.tuple #[.string (ByteArray.mk #[97, 98, 99]), .int .i64 0]) ∧ Below w.heap.size w w') ∧
    (∀ w, Calls Try.prog 14 #[.string (ByteArray.mk #[97]), .int .i64 6] w fun e w' => e = .returned (.tuple #[.string Y, .int .i64 0]) ∧ Below w.heap.size w w') ∧ Y.size = 6 ∧
    (∀ w, Calls Try.prog 12 #[.string Y] w fun e w' => e = .returned (.tuple #[.string (ByteArray.mk #[97, 0]), .int .i64 0]) ∧ Below w.heap.size w w') := by
  obtain ⟨o1, o2, o3, o4⟩ := open_seal tABC
  obtain ⟨r1, r2, r3, r4⟩ := read_stamp tA 6 (by omega) (by decide)
  refine ⟨sealT tABC, stampT tA 6, fun w => seal_any tABC (by decide) w, fun w => ?_, fun w => stamp_ok tA 6 (by omega) (by omega) (by decide) w, r1, fun w => ?_⟩
  · have h := open_ok (sealT tABC) o1 (by rw [o2]; decide) o3 w
    rw [o4] at h
    exact h
  · have h := read_ok (stampT tA 6) 2 r1 (by rw [r1]; decide) r3 w
    rw [show (stampT tA 6).extract 0 2 = padT tA 6 from r4, show padT tA 6 = ByteArray.mk #[97, 0] by decide +kernel] at h
    exact h
theorem of_alive (w : World) : Calls Try.prog 16 #[.slice (some ⟨w.heap.size, 0, none⟩) 2 2] (w.alloc (.cells #[.string (ByteArray.mk #[49, 50, 51, 52]), .string (ByteArray.mk #[53, 54, 55, 56, 57])] 9)) fun e w' =>
    e = .returned (.int .u32 3421780262) ∧ w.alloc (.cells #[.string (ByteArray.mk #[49, 50, 51, 52]), .string (ByteArray.mk #[53, 54, 55, 56, 57])] 9) = w' := by
  have h := of_any (some ⟨w.heap.size, 0, none⟩) 2 2 [ByteArray.mk #[49, 50, 51, 52], ByteArray.mk #[53, 54, 55, 56, 57]] _ (Lies.of_blk (Blk.new w 9 #[.string (ByteArray.mk #[49, 50, 51, 52]), .string (ByteArray.mk #[53, 54, 55, 56, 57])])) (by decide) (fun x hx => by
    have : x = ByteArray.mk #[49, 50, 51, 52] ∨ x = ByteArray.mk #[53, 54, 55, 56, 57] := by simpa using hx
    rcases this with rfl | rfl <;> decide)
  rw [show allB [ByteArray.mk #[49, 50, 51, 52], ByteArray.mk #[53, 54, 55, 56, 57]] = [49, 50, 51, 52, 53, 54, 55, 56, 57] from rfl, crc9] at h
  exact h
set_option maxRecDepth 100000 in
theorem alive_any (w : World) : Calls Try.prog 8 #[] w (Quiet w) := by
  obtain ⟨X, Y, p1, p2, p3, hY, p4⟩ := alive_pieces
  go_enter Try.func8, Try.ntmps8
  go_wp2_with (first
    | (go_at_call 18; refine (p1 _).mono ?_; rintro e w1 ⟨rfl, hw1⟩)
    | (go_at_call 10; refine (p2 _).mono ?_; rintro e w2 ⟨rfl, hw2⟩)
    | (go_at_call 14; refine (p3 _).mono ?_; rintro e w3 ⟨rfl, hw3⟩)
    | (go_at_call 12; refine (p4 _).mono ?_; rintro e w4 ⟨rfl, hw4⟩)
    | (go_at_call 16; refine (of_alive _).mono ?_; rintro e w' ⟨rfl, rfl⟩))
  go_ret
  have b2 := hw1.trans (hw2.mono hw1.size)
  have b3 := b2.trans (hw3.mono b2.size)
  have b4 := b3.trans (hw4.mono b3.size)
  exact ⟨rfl, b4.alloc b4.size _⟩
end Go.Proofs.Ytooapgeokonlhaa.SM
