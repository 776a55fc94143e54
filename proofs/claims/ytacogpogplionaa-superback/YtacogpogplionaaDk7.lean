/- The disk: Cut of any disk, goes, Restore, Barrier, Admit, Fence, Put. No condition. -/
import Derived.Test.YtacogpogplionaaDk6
namespace Go.Proofs.Ytacogpogplionaa.DK
set_option maxRecDepth 100000
open Go.RowKit Go.Proofs.Ytacogpogplionaa.MI
set_option linter.unusedVariables false
set_option linter.unusedSimpArgs false

section
variable {w w' : World} {B g N : Nat} {p : Pl} {D : Dk}
theorem cut_any (h : DiskAt w B g p N D) (A : Option Addr) (m c : Nat) (keep : List Int) (hl : Lies w 1 A m (keep.map (Value.int .i64))) (hA : 0 < m → ∃ b off, A = some ⟨b, off, none⟩) (hfar : 0 < m → ∀ ad, A = some ad → ¬ fp g p ad.block) (hN : N ≤ 1000000000) :
    Calls Try.prog 54 #[.pointer (some ⟨g, 0, none⟩), .slice A m c] w fun e w' => e = .returned (.int .i64 (cutN D : Int)) ∧ DiskOut w B g p N (cutK D keep) w' := by
  unfold cutN
  cases hon : D.on
  · exact cut_off h hon A m c keep
  · exact cut_on h hon A m c keep hl hA hfar hN
theorem goes_any (h : DiskAt w B g p N D) (hN : N ≤ 1000000000) : Calls Try.prog 39 #[.pointer (some ⟨g, 0, none⟩)] w fun e w' => e = .returned (.bool (goesB D)) ∧ DiskOut w B g p N (goesK D) w' := by
  have c9 : w.cell? ⟨g, 41, none⟩ = some (.bool D.armed) := h.blk.cell 41
  have c10 : w.cell? ⟨g, 42, none⟩ = some (.int .i64 D.left) := h.blk.cell 42
  have c11 : w.cell? ⟨g, 43, none⟩ = some (.slice p.sa p.sn p.sc) := h.blk.cell 43
  have f10 : w.frozen? ⟨g, 42, none⟩ = false := h.blk.frozen 42
  have hle := h.sane.left
  cases ha : D.armed
  · have h1 : goesB D = false := by unfold goesB; rw [ha]; rfl
    have h2 : goesK D = D := by unfold goesK; rw [ha]; rfl
    rw [h1, h2]
    rw [ha] at c9
    have H := Lib.hid h.out
    clear h h1 h2 ha
    go_enter Try.func39, Try.ntmps39
    go_wp2
    go_ret
    exact ⟨rfl, H.out⟩
  · by_cases hl : 0 < D.left
    · have h1 : goesB D = false := by unfold goesB; rw [ha]; simp [hl]
      have h2 : goesK D = { D with left := D.left - 1 } := by unfold goesK; rw [ha]; simp [hl]
      have b1 : decide (0 < D.left) = true := by simpa using hl
      have e1 : IntKind.i64.wrap (D.left - 1) = D.left - 1 := IntWalk.i64_in _ (by omega)
      rw [h1, h2]
      rw [ha] at c9
      have ho : DiskOut w B g p N { D with left := D.left - 1 } (w.setCell ⟨g, 42, none⟩ (.int .i64 (D.left - 1))) :=
        h.turnOut (keep1 w g 42 _) (h.blk.set_ 42 _) rfl rfl rfl rfl h.seq ⟨h.sane.room, h.sane.now, h.sane.lasts, h.sane.waits, by show D.left - 1 ≤ _; omega⟩
      have H := Lib.hid ho
      clear h h1 h2 ha ho
      go_enter Try.func39, Try.ntmps39
      go_wp2
      go_ret
      exact ⟨rfl, H.out⟩
    · have h1 : goesB D = true := by unfold goesB; rw [ha]; simp [hl]
      have h2 : goesK D = cutK D D.stays := by unfold goesK; rw [ha]; simp [hl]
      have b1 : decide (0 < D.left) = false := by simpa using hl
      rw [h1, h2]
      rw [ha] at c9
      have kc := cut_any h p.sa p.sn p.sc D.stays h.stays (fun h0 => by
        obtain ⟨ad, e, _⟩ := h.stays.2 h0
        obtain ⟨b, rfl⟩ := h.sn.2.2.2 ad e
        exact ⟨b, 0, e⟩) (fun _ ad e hk => h.far _ ⟨ad, e, rfl⟩ hk) hN
      clear h h1 h2 ha
      go_enter Try.func39, Try.ntmps39
      go_wp2_with (go_at_call 54; refine kc.mono ?_; rintro e w1 ⟨rfl, ho⟩; have HO := Lib.hid ho; clear ho kc)
      go_ret
      exact ⟨rfl, HO.out⟩
end
end Go.Proofs.Ytacogpogplionaa.DK
