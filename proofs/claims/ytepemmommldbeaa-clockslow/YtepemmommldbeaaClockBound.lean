/- ClockBound: the walk. No condition. -/
import Derived.Test.YtepemmommldbeaaClockAlive
import Derived.Test.YtepemmommldbeaaHist
import Derived.Test.YtepemmommldbeaaRow
namespace Go.Proofs.Ytepemmommldbeaa.clockBound
open Go.RowKit
set_option linter.unusedVariables false
open CL

/-- A clock that was made here, behind k steps of the list's. -/
def At (W : World) (zs : List Int) (k : Nat) (w : World) : Prop := ∃ F, ClockIs w W.heap.size W.heap.size (S zs k) (k : Int) (lastW (hist zs k)) (brokeN zs k) F ∧ Below W.heap.size W w
theorem At.step {W w w' : World} {zs : List Int} {k : Nat} {x : Int} {F : Nat → Prop} (hx : zs[k]? = some x) (h : ClockIs w W.heap.size W.heap.size (S zs k) (k : Int) (lastW (hist zs k)) (brokeN zs k) F) (hb : Below W.heap.size W w)
    (ho : StepOut w W.heap.size W.heap.size (S zs k + clampI x) ((k : Int) + 1) (nextW (lastW (hist zs k)) (clampI x)) (brokeN zs k || badW (nextW (lastW (hist zs k)) (clampI x))) F w') : At W zs (k + 1) w' := by
  obtain ⟨F', h', hk, hg⟩ := ho
  rw [S_snoc zs k x hx, nextW_last, hist_snoc zs k x hx] at h'
  exact ⟨F', by simpa [brokeN] using h', hk.after hb h.ge hb.size⟩

set_option maxRecDepth 100000 in
theorem walk (a0 : Option Addr) (len0 cap0 : Nat) (z0 : List Int) (W : World) (w0 : IsRow .i64 W a0 len0 cap0 z0) :
    Calls Try.prog 4 #[.slice a0 len0 cap0] W fun e w' => e = .returned (.bool true) ∧ Below W.heap.size W w' := by
  obtain ⟨hl1, hl2, hl3⟩ := w0.len
  unfold maxLen at hl2
  by_cases c1 : (300 : Int) < len0
  · go_enter Try.func4, Try.ntmps4
    go_wp2_with (go_at_call 9; refine (alive_any _).mono ?_; rintro e w1 ⟨rfl, hb⟩)
    go_ret
    exact ⟨rfl, hb⟩
  have W0 := Lib.hid w0
  clear w0
  go_enter Try.func4, Try.ntmps4
  go_wp2_with (go_at_call 10; refine (new_any _).mono ?_; rintro e w1 ⟨rfl, hr⟩; have R1 := Lib.hid hr; clear hr)
  go_loopw [4] (fun i wr => ∃ k : Nat, i = .int .i64 (k : Int) ∧ k ≤ len0 ∧ At W z0 k wr) (fun i _ => len0 - (intOf i).toNat)
  case atStart => exact ⟨0, rfl, by omega, _, R1.out.1, R1.out.2.belowW⟩
  case round =>
    obtain ⟨k, rfl, hk, ho⟩ := hrel
    clear R1 w1
    obtain ⟨F, hC, hB⟩ := ho
    have hS := S_b z0 k
    by_cases hlt : k < len0
    · obtain ⟨b, off, rfl, hb, hc⟩ := W0.out.cells (by omega)
      obtain ⟨x, hx⟩ : ∃ x, z0[k]? = some x := ⟨_, List.getElem?_eq_getElem (by omega)⟩
      have hcell : wr.cell? ⟨b, off + k, none⟩ = some (.int .i64 x) := by
        rw [hB.cell hb, hc k hlt]
        simp [hx]
      clear hc
      have hst := step_any hC (by omega) (by omega) (by omega) (by omega) x
      obtain ⟨x9, rest⟩ : ∃ x9, x9 = S z0 k + clampI x := ⟨_, rfl⟩
      rw [← rest] at hst
      have HX := Lib.hid hx
      have HR := Lib.hid rest
      clear hx rest
      go_wp2_with fail
      refine hst.mono ?_
      rintro e w2 ⟨rfl, hr⟩
      rw [HR.out] at hr
      obtain ⟨F2, hC2, hB2⟩ := At.step HX.out hC hB hr
      clear hr hst hcell
      have hS2 := S_b z0 (k + 1)
      have hBd : brokeN z0 (k + 1) = false → 8 ≤ k + 1 → 7 * ((k + 1 : Nat) : Int) - 72 ≤ 8 * S z0 (k + 1) ∧ 8 * S z0 (k + 1) ≤ 9 * ((k + 1 : Nat) : Int) + 72 := fun h1 h2 => bound z0 (k + 1) h1 (by omega) h2 (k + 1) (Nat.le_refl _)
      have hC3 : Hid (At W z0 (k + 1) w2) := Lib.hid ⟨F2, hC2, hB2⟩
      have hk9 : ((k + 1 : Nat) : Int) ≤ 301 := by omega
      generalize hs : S z0 (k + 1) = s at hC2 hS2 hBd
      generalize hbr : brokeN z0 (k + 1) = br at hC2 hBd
      generalize hr : ((k + 1 : Nat) : Int) = r at hC2 hS2 hBd hk9
      clear hC hs hbr
      cases br
      · by_cases h8 : 8 ≤ r
        · have hb := hBd rfl (by omega)
          have HR := Lib.hid hr
          clear hBd hr
          go_wp2_with (first
            | (go_at_call 11; refine (kept_any hC2).mono ?_; rintro e w' ⟨rfl, rfl⟩)
            | (go_at_call 15; refine (real_any hC2).mono ?_; rintro e w' ⟨rfl, rfl⟩)
            | (go_at_call 14; refine (now_any hC2).mono ?_; rintro e w' ⟨rfl, rfl⟩))
          go_roundw
          case rel => exact ⟨k + 1, by go_num, by omega, hC3.out⟩
          case measure => simp [intOf]; omega
        · have h9 : ¬ 8 ≤ r := h8
          clear hBd
          have HR := Lib.hid hr
          clear hr
          go_wp2_with (first
            | (go_at_call 11; refine (kept_any hC2).mono ?_; rintro e w' ⟨rfl, rfl⟩)
            | (go_at_call 15; refine (real_any hC2).mono ?_; rintro e w' ⟨rfl, rfl⟩))
          go_roundw
          case rel => exact ⟨k + 1, by go_num, by omega, hC3.out⟩
          case measure => simp [intOf]; omega
      · clear hBd
        have HR := Lib.hid hr
        clear hr
        go_wp2_with (go_at_call 11; refine (kept_any hC2).mono ?_; rintro e w' ⟨rfl, rfl⟩)
        go_roundw
        case rel => exact ⟨k + 1, by go_num, by omega, hC3.out⟩
        case measure => simp [intOf]; omega
    · obtain rfl : k = len0 := by omega
      go_wp2_with (go_at_call 9; refine (alive_any _).mono ?_; rintro e w2 ⟨rfl, hb⟩)
      go_ret
      exact ⟨rfl, hB.trans (hb.mono hB.size)⟩
end Go.Proofs.Ytepemmommldbeaa.clockBound
