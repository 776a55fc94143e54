/- commonslaw8.fill: a text of one byte. No condition. -/
import Derived.Test.YtlnomfaaldjnpaaDk11
namespace Go.Proofs.Ytlnomfaaldjnpaa.DK
open Go.RowKit Go.Proofs.Ytlnomfaaldjnpaa.MI
set_option linter.unusedVariables false
set_option linter.unusedSimpArgs false

theorem fill_step (x : UInt8) (m k : Nat) (h : k < m) : (List.replicate k x ++ List.replicate (m - k) 0).set k x = List.replicate (k + 1) x ++ List.replicate (m - (k + 1)) 0 := by
  obtain ⟨d, rfl⟩ : ∃ d, m = k + 1 + d := ⟨m - k - 1, by omega⟩
  rw [show k + 1 + d - k = d + 1 by omega, show k + 1 + d - (k + 1) = d by omega, List.replicate_succ, List.replicate_succ']
  rw [List.set_append_right _ _ (by simp)]
  simp
def FillRel (x : UInt8) (m : Nat) (w : World) (k : Nat) (wr : World) : Prop := Cells wr w.heap.size (List.replicate k x ++ List.replicate (m - k) 0) ∧ Below w.heap.size w wr
set_option maxHeartbeats 1000000 in
theorem fill_any (w : World) (x : UInt8) (n : Nat) (hn : n ≤ 100) : Calls Try.prog 16 #[.string ⟨#[x]⟩, .int .i64 (n : Int)] w fun e w' => e = .returned (.string (sameT x n)) ∧ Below w.heap.size w w' := by
  obtain ⟨m, hm⟩ : ∃ m, 64 * n = m := ⟨_, rfl⟩
  have hmk := zeros_make m (by omega)
  have e1 : IntKind.i64.wrap (64 * (n : Int)) = (m : Int) := by rw [IntWalk.i64_in _ (by omega)]; omega
  have e2 : (64 : Int) * (n : Int) = (m : Int) := by omega
  have hs : sameT x n = ⟨(List.replicate m x).toArray⟩ := by unfold sameT; rw [hm]
  have H0 : Hid (FillRel x m w 0 (w.alloc (.cells (zeroCells m) 5))) := Lib.hid ⟨by simpa using zeros_cells m w, (Below.refl _ w).alloc (Nat.le_refl _) _⟩
  have hix : ∀ w : World, (Instr.index 9 (.string ⟨#[x]⟩) (.int .i64 0)).run Try.prog w = .ok (.int .u8 (x.toNat : Int)) w := fun w => by
    rw [run_index_string (P := Try.prog) w 9 _ .i64 0 Try.underlying9]
    rw [dif_pos ⟨by omega, by show (0 : Int) < ((1 : Nat) : Int); omega⟩]
    rfl
  have hmb : m ≤ 6400 := by omega
  rw [hs]
  clear hm hs hn
  generalize zeroCells m = M at hmk H0
  go_enter Try.func16, Try.ntmps16
  go_wp2
  go_loopw [12] (fun i wr => ∃ k : Nat, k ≤ m ∧ i = .int .i64 (k : Int) ∧ Hid (FillRel x m w k wr)) (fun i _ => m - (intOf i).toNat)
  case atStart => exact ⟨0, Nat.zero_le _, rfl, H0⟩
  case round =>
    obtain ⟨k, hk, rfl, HR⟩ := hrel
    by_cases hlt : k < m
    · obtain ⟨hc, hb⟩ := HR.out
      obtain ⟨c0, f0⟩ := hc.2 k 0 (by rw [List.getElem?_append_right (by simp)]; rw [List.getElem?_replicate, if_pos (by simp; omega)])
      have R2 : Hid (FillRel x m w (k + 1) (wr.setCell ⟨w.heap.size, k, none⟩ (.int .u8 (x.toNat : Int)))) := Lib.hid ⟨by
        have := hc.set_ k (by simp; omega) x
        rwa [fill_step x m k hlt] at this, hb.setCell (p := ⟨w.heap.size, k, none⟩) (Nat.le_refl _) _⟩
      clear hc hb
      go_wp2_with fail
      go_roundw
      case rel => exact ⟨k + 1, by omega, by go_num, R2⟩
      case measure => simp [intOf]; omega
    · obtain rfl : k = m := by omega
      have hcv := text_of (l := List.replicate k x) (by have := HR.out.1; simpa using this) k k (by simp)
      go_wp2
      go_ret
      exact ⟨rfl, HR.out.2⟩
end Go.Proofs.Ytlnomfaaldjnpaa.DK
