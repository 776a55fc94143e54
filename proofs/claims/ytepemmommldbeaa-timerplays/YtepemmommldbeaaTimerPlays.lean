/- TimerPlays: the walk. No condition. -/
import Derived.Test.YtepemmommldbeaaClockAlive
import Derived.Test.YtepemmommldbeaaTimer
import Derived.Test.YtepemmommldbeaaTuples
import Derived.Test.YtepemmommldbeaaSeq
import Derived.Deep.DeepCutAuto
import Derived.Deep.CutBlock
namespace Go.Proofs.Ytepemmommldbeaa.timerPlays
open Go.RowKit
set_option linter.unusedVariables false

theorem pairs_in {H : Type} {enc : TypeId × Value → H} {w : World} {base : Nat} {v : Value} {d : DataW H} {p : List MemPlace}
    (hok : Value.okWide Try.prog w .any base 43 v) (h : DataW.Trod enc Try.prog w 0 (fun _ => true) true 43 v d p) : ∃ a len cap zs, v = .slice a len cap ∧ TuplesIs 2 w a len cap zs :=
  tuples_in (by decide) Try.underlying43 Try.underlying44 Try.underlying3 (by kernel_rfl) (by kernel_rfl) hok h

set_option maxHeartbeats 1600000 in
set_option maxRecDepth 100000 in
theorem walk (a0 : Option Addr) (len0 cap0 : Nat) (z0 : List Int) (W : World) (w0 : TuplesIs 2 W a0 len0 cap0 z0) :
    Calls Try.prog 7 #[.slice a0 len0 cap0] W fun e w' => e = .returned (.bool true) ∧ Below W.heap.size W w' := by
  obtain ⟨hl1, hl2, hl3, hwf, hcs⟩ := w0
  unfold maxLen at hl2
  by_cases c1 : (100 : Int) < len0
  · go_enter Try.func7, Try.ntmps7
    go_wp2_with (go_at_call 9; refine (CL.alive_any _).mono ?_; rintro e w1 ⟨rfl, hb⟩)
    go_ret
    exact ⟨rfl, hb⟩
  have HC := Lib.hid hcs
  have HW := Lib.hid hwf
  have hT : TM.Tm (W.alloc (.cells #[.int .i64 0, .bool false] 38)) W.heap.size 0 false := Blk.new _ _ _
  have hBt : Below W.heap.size W (W.alloc (.cells #[.int .i64 0, .bool false] 38)) := (Below.refl _ _).alloc (Nat.le_refl _) _
  have hge : ∀ k, only W.heap.size k → W.heap.size ≤ k := fun k hk => Nat.le_of_eq hk.symm
  have HG := Lib.hid hge
  clear hcs hwf hge
  go_enter Try.func7, Try.ntmps7
  go_wp2_with fail
  go_loopw [4, 5, 6] (fun st t i wr => ∃ (k : Nat) (s : Bool) (z : Int), i = .int .i64 (k : Int) ∧ st = .bool s ∧ t = .int .i64 z ∧ k ≤ len0 ∧ (Lit.int .i64 z).wf = true ∧ (∃ y, TM.Tm wr W.heap.size y s ∧ (s = true → y = z)) ∧ Below W.heap.size W wr) (fun _ _ i _ => len0 - (intOf i).toNat)
  case atStart => exact ⟨0, false, 0, rfl, rfl, rfl, by omega, by decide, ⟨0, hT, fun h => by cases h⟩, hBt⟩
  case round =>
    clear hT hBt
    obtain ⟨k, s, z, rfl, rfl, rfl, hk, hwz, ⟨y, hT, hy⟩, hB⟩ := hrel
    by_cases hlt : k < len0
    · obtain ⟨b, off, rfl, hb, hc⟩ := HC.out (by omega)
      obtain ⟨o, ho⟩ : ∃ o, z0.getD (k * 2) 0 = o := ⟨_, rfl⟩
      obtain ⟨n, hn⟩ : ∃ n, z0.getD (k * 2 + 1) 0 = n := ⟨_, rfl⟩
      have hwn : (Lit.int .i64 n).wf = true := by rw [← hn]; exact HW.out _ (by omega)
      have hc0 : wr.cell? ⟨b, off + k * 2, none⟩ = some (.int .i64 o) := by rw [hB.cell hb, hc (k * 2) (by omega), ho]
      have hc1 : wr.cell? ⟨b, off + k * 2 + 1, none⟩ = some (.int .i64 n) := by rw [Nat.add_assoc, hB.cell hb, hc (k * 2 + 1) (by omega), hn]
      clear hc ho hn
      have hbn := bounds_i64 hwn
      have hbz := bounds_i64 hwz
      obtain ⟨q, hq⟩ : ∃ q, bits .and .i64 o 3 = q := ⟨_, rfl⟩
      have HN := Lib.hid hwn
      have HZ := Lib.hid hwz
      clear hbn hbz hwn hwz
      go_upto_block 2 with fail
      clear hq hc0 hc1
      go_cut [4, 5] (fun st t wx => ∃ (s' : Bool) (z' : Int), st = .bool s' ∧ t = .int .i64 z' ∧ (Lit.int .i64 z').wf = true ∧ (∃ y, TM.Tm wx W.heap.size y s' ∧ (s' = true → y = z')) ∧ Below W.heap.size W wx)
      case first =>
        by_cases q0 : q = 0
        · subst q0
          go_wp2_with fail
          refine (TM.set_any hT n).mono ?_; rintro e x1 ⟨rfl, t1, k1⟩
          go_wp2_with fail
          go_meet
          exact ⟨true, n, rfl, rfl, HN.out, ⟨n, t1, fun _ => rfl⟩, k1.after hB HG.out hB.size⟩
        have e0 : (q == 0) = false := by simp [q0]
        by_cases q1 : q = 1
        · subst q1
          cases s
          · go_wp2_with fail
            refine (TM.due_off hT n).mono ?_; rintro e w' ⟨rfl, rfl⟩
            go_wp2_with fail
            go_meet
            exact ⟨false, z, rfl, rfl, HZ.out, ⟨y, hT, fun h => by cases h⟩, hB⟩
          · obtain rfl : y = z := hy rfl
            clear hy
            by_cases hn : y ≤ n
            · go_wp2_with fail
              refine (TM.due_yes hT n hn).mono ?_; rintro e x1 ⟨rfl, t1, k1⟩
              go_wp2_with fail
              go_meet
              exact ⟨false, y, rfl, rfl, HZ.out, ⟨y, t1, fun h => by cases h⟩, k1.after hB HG.out hB.size⟩
            · go_wp2_with fail
              refine (TM.due_early hT n (by omega)).mono ?_; rintro e w' ⟨rfl, rfl⟩
              go_wp2_with fail
              go_meet
              exact ⟨true, y, rfl, rfl, HZ.out, ⟨y, hT, fun _ => rfl⟩, hB⟩
        have e1 : (q == 1) = false := by simp [q1]
        by_cases q2 : q = 2
        · subst q2
          go_wp2_with fail
          refine (TM.stop_any hT).mono ?_; rintro e x1 ⟨rfl, t1, k1⟩
          go_wp2_with fail
          go_meet
          exact ⟨false, z, rfl, rfl, HZ.out, ⟨y, t1, fun h => by cases h⟩, k1.after hB HG.out hB.size⟩
        · have e2 : (q == 2) = false := by simp [q2]
          go_wp2_with fail
          go_meet
          exact ⟨s, z, rfl, rfl, HZ.out, ⟨y, hT, hy⟩, hB⟩
      case rest =>
        clear hT hB hy HZ
        obtain ⟨s', z', rfl, rfl, hwz, ⟨y', hT, hy⟩, hB⟩ := hcut
        have HZ := Lib.hid hwz
        clear hwz
        cases s'
        · go_wp2_with fail
          refine (TM.left_off hT n).mono ?_; rintro e w' ⟨rfl, rfl⟩
          go_wp2_with fail
          go_roundw
          case rel => exact ⟨k + 1, false, z', by go_num, rfl, rfl, by omega, HZ.out, ⟨y', hT, fun h => by cases h⟩, hB⟩
          case measure => simp [intOf]; omega
        · obtain rfl : y' = z' := hy rfl
          clear hy
          by_cases hn : y' ≤ n
          · go_wp2_with fail
            refine (TM.left_past hT n hn).mono ?_; rintro e w' ⟨rfl, rfl⟩
            go_wp2_with fail
            go_roundw
            case rel => exact ⟨k + 1, true, y', by go_num, rfl, rfl, by omega, HZ.out, ⟨y', hT, fun _ => rfl⟩, hB⟩
            case measure => simp [intOf]; omega
          · have hcl := TM.left_till hT n (by omega) HN.out HZ.out
            have hb1 := bounds_i64 HN.out
            have hb2 := bounds_i64 HZ.out
            by_cases hov : y' - n ≤ 9223372036854775807
            · rw [show min (y' - n) 9223372036854775807 = y' - n by omega] at hcl
              go_wp2_with fail
              refine hcl.mono ?_; rintro e w' ⟨rfl, rfl⟩
              go_wp2_with fail
              go_roundw
              case rel => exact ⟨k + 1, true, y', by go_num, rfl, rfl, by omega, HZ.out, ⟨y', hT, fun _ => rfl⟩, hB⟩
              case measure => simp [intOf]; omega
            · rw [show min (y' - n) 9223372036854775807 = 9223372036854775807 by omega] at hcl
              have hw : wrap64 (y' - n) < 0 := by unfold wrap64; omega
              clear hb1 hb2 hov
              go_wp2_with fail
              refine hcl.mono ?_; rintro e w' ⟨rfl, rfl⟩
              go_wp2_with fail
              go_roundw
              case rel => exact ⟨k + 1, true, y', by go_num, rfl, rfl, by omega, HZ.out, ⟨y', hT, fun _ => rfl⟩, hB⟩
              case measure => simp [intOf]; omega
    · obtain rfl : k = len0 := by omega
      go_wp2_with (go_at_call 9; refine (CL.alive_any _).mono ?_; rintro e w2 ⟨rfl, hb⟩)
      go_ret
      exact ⟨rfl, hB.trans (hb.mono hB.size)⟩
end Go.Proofs.Ytepemmommldbeaa.timerPlays
