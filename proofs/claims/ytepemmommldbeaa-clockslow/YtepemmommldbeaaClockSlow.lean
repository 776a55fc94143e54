/- ClockSlow: the walk. No condition. -/
import Derived.Test.YtepemmommldbeaaClockBound
import Derived.Test.YtepemmommldbeaaTimer
namespace Go.Proofs.Ytepemmommldbeaa.clockSlow
open Go.RowKit
set_option linter.unusedVariables false
open CL clockBound

theorem last_get (zs : List Int) (i j : Nat) (x : Int) (hi : i < zs.length) (h : zs[(i - 7) + j]? = some x) (hj : (i - 7) + j ≤ i) : (lastW (hist zs (i + 1)))[j]? = some (clampI x) := by
  unfold lastW
  rw [hist_len (by omega), List.getElem?_drop]
  unfold hist
  rw [List.getElem?_map, List.getElem?_take, if_pos (by omega), show i + 1 - 8 + j = i - 7 + j by omega, h]
  rfl
theorem broke_is (zs : List Int) (i : Nat) (hi : i < zs.length) (br : Bool) (S : Int) (hb : brokeN zs i = br) (hS : (lastW (hist zs (i + 1))).sum = S) : brokeN zs (i + 1) = (br || (decide (7 ≤ i) && (decide (S < 7) || decide (9 < S)))) := by
  show (brokeN zs i || badW (lastW (hist zs (i + 1)))) = _
  unfold badW
  rw [hb, hS, lastW_len, hist_len (by omega)]
  congr 3
  simp; omega

set_option maxHeartbeats 1600000 in
set_option maxRecDepth 100000 in
theorem walk (a0 : Option Addr) (len0 cap0 : Nat) (z0 : List Int) (a1 : Int) (W : World) (w0 : IsRow .i64 W a0 len0 cap0 z0) (w1 : (Lit.int .i64 a1).wf = true) :
    Calls Try.prog 6 #[.slice a0 len0 cap0, .int .i64 a1] W fun e w' => e = .returned (.bool true) ∧ Below W.heap.size W w' := by
  obtain ⟨hl1, hl2, hl3⟩ := w0.len
  unfold maxLen at hl2
  clear w1
  by_cases c1 : (100 : Int) < len0
  · go_enter Try.func6, Try.ntmps6
    go_wp2_with (go_at_call 9; refine (alive_any _).mono ?_; rintro e w1 ⟨rfl, hb⟩)
    go_ret
    exact ⟨rfl, hb⟩
  have W0 := Lib.hid w0
  clear w0
  go_enter Try.func6, Try.ntmps6
  go_wp2_with (go_at_call 10; refine (new_any _).mono ?_; rintro e w1 ⟨rfl, hr⟩; have R1 := Lib.hid hr; clear hr)
  go_loopw [6, 7] (fun ws i wr => ∃ k : Nat, i = .int .i64 (k : Int) ∧ ws = .bool (!brokeN z0 k) ∧ k ≤ len0 ∧ At W z0 k wr) (fun _ i _ => len0 - (intOf i).toNat)
  case atStart => exact ⟨0, rfl, rfl, by omega, _, R1.out.1, R1.out.2.belowW⟩
  case round =>
    obtain ⟨k, rfl, rfl, hk, ho⟩ := hrel
    clear R1 w1
    obtain ⟨F, hC, hB⟩ := ho
    have hS := S_b z0 k
    by_cases hlt : k < len0
    · obtain ⟨b, off, rfl, hb, hc⟩ := W0.out.cells (by omega)
      obtain ⟨x, hx⟩ : ∃ x, z0[k]? = some x := ⟨_, List.getElem?_eq_getElem (by omega)⟩
      have hcell : wr.cell? ⟨b, off + k, none⟩ = some (.int .i64 x) := by
        rw [hB.cell hb, hc k hlt]
        simp [hx]
      have HC0 := Lib.hid hc
      have hst := step_any hC (by omega) (by omega) (by omega) (by omega) x
      obtain ⟨x9, rest⟩ : ∃ x9, x9 = S z0 k + clampI x := ⟨_, rfl⟩
      rw [← rest] at hst
      have HX := Lib.hid hx
      have HR := Lib.hid rest
      obtain ⟨br, hbr⟩ : ∃ br, brokeN z0 k = br := ⟨_, rfl⟩
      have HBR := Lib.hid hbr
      rw [hbr]
      clear hx rest hc hbr
      go_wp2_with fail
      refine hst.mono ?_
      rintro e w2 ⟨rfl, hr⟩
      rw [HR.out] at hr
      have hA := At.step HX.out hC hB hr
      have HA := Lib.hid hA
      obtain ⟨F2, hC2, hB2⟩ := hA
      have hls : Small (lastW (hist z0 (k + 1))) := fun x hx => hist_small z0 (k + 1) x (List.mem_of_mem_drop hx)
      clear hr hst hcell hC hB
      have hm0 : ((k - 7 : Nat) : Int) = max ((k : Int) - 7) 0 := by omega
      obtain ⟨m, hm⟩ : ∃ m, k - 7 = m := ⟨_, rfl⟩
      rw [hm] at hm0
      have hmk : m ≤ k := by omega
      have HM := Lib.hid hm
      have HM0 := Lib.hid hm0
      clear hm hm0
      have hmx : (7 < (k : Int) ∧ (m : Int) = (k : Int) - 7) ∨ ((k : Int) ≤ 7 ∧ m = 0) := by have := HM0.out; omega
      go_upto_region 12 with fail
      go_cut [8, 9] (fun s i wx => s = .int .i64 0 ∧ i = .int .i64 (m : Int) ∧ w2 = wx)
      case first =>
        go_wp2_with fail
        all_goals (go_meet; exact ⟨rfl, by congr 1; omega, rfl⟩)
      case rest =>
        obtain ⟨rfl, rfl, rfl⟩ := hcut
        clear hmx
        go_wp2_with fail
        go_loop [8, 9] (fun s i => ∃ j : Nat, m + j ≤ k + 1 ∧ i = .int .i64 ((m + j : Nat) : Int) ∧ s = .int .i64 ((lastW (hist z0 (k + 1))).take j).sum) (fun _ i => k + 1 - (intOf i).toNat)
        case atStart => exact ⟨0, by omega, by simp, rfl⟩
        case round =>
          obtain ⟨j, hj, rfl, rfl⟩ := hrel
          have hs1 := (hls.take j).sum
          have hs2 : ((lastW (hist z0 (k + 1))).take j).length ≤ 8 := by rw [List.length_take, lastW_len]; omega
          by_cases hjk : m + j ≤ k
          · obtain ⟨y, hy⟩ : ∃ y, z0[m + j]? = some y := ⟨_, List.getElem?_eq_getElem (by omega)⟩
            have hcell : w2.cell? ⟨b, off + (m + j), none⟩ = some (.int .i64 y) := by
              rw [hB2.cell hb, HC0.out (m + j) (by omega)]
              simp [hy]
            have hsn := sum_snoc_ _ j _ (last_get z0 k j y (by omega) (by rw [HM.out]; exact hy) (by rw [HM.out]; exact hjk))
            have HS := Lib.hid hsn
            clear hy hsn
            go_wp2_with fail
            all_goals
              go_round
              case rel => exact ⟨j + 1, by omega, by go_num, by rw [HS.out]; congr 1; unfold clampI; omega⟩
              case measure => simp [intOf]; omega
          · have e1 : (lastW (hist z0 (k + 1))).take j = lastW (hist z0 (k + 1)) := List.take_of_length_le (by rw [lastW_len, hist_len (by omega)]; have := HM.out; omega)
            rw [e1] at hs1 hs2 ⊢
            have e2 : (m : Int) + (j : Int) = (k : Int) + 1 := by omega
            obtain ⟨s, hs⟩ : ∃ s, (lastW (hist z0 (k + 1))).sum = s := ⟨_, rfl⟩
            have hbk := broke_is z0 k (by omega) br s HBR.out hs
            rw [hs] at hs1 ⊢
            obtain ⟨br2, hbr2⟩ : ∃ br2, brokeN z0 (k + 1) = br2 := ⟨_, rfl⟩
            rw [hbr2] at hbk hC2
            have HB2 := Lib.hid hbr2
            clear e1 hs hbr2 e2
            have hkl : (k : Int) < (len0 : Int) := by omega
            cases br
            · by_cases g1 : (k : Int) < 7
              · have : br2 = false := by rw [hbk, decide_eq_false (p := 7 ≤ k) (by omega)]; rfl
                subst this
                clear hbk
                go_wp2_with (go_at_call 11; refine (kept_any hC2).mono ?_; rintro e w' ⟨rfl, rfl⟩)
                go_roundw
                case rel => exact ⟨k + 1, by go_num, (congrArg (fun q => Value.bool (!q)) HB2.out).symm, by omega, HA.out⟩
                case measure => simp [intOf]; omega
              · by_cases g2 : s < 7
                · have : br2 = true := by rw [hbk, decide_eq_true (p := 7 ≤ k) (by omega), decide_eq_true (p := s < 7) g2]; rfl
                  subst this
                  clear hbk
                  go_wp2_with (go_at_call 11; refine (kept_any hC2).mono ?_; rintro e w' ⟨rfl, rfl⟩)
                  go_roundw
                  case rel => exact ⟨k + 1, by go_num, (congrArg (fun q => Value.bool (!q)) HB2.out).symm, by omega, HA.out⟩
                  case measure => simp [intOf]; omega
                · by_cases g3 : 9 < s
                  · have : br2 = true := by rw [hbk, decide_eq_true (p := 7 ≤ k) (by omega), decide_eq_true (p := 9 < s) g3]; simp
                    subst this
                    clear hbk
                    have g4 : decide (s ≤ 9) = false := decide_eq_false (by omega)
                    go_wp2_with (go_at_call 11; refine (kept_any hC2).mono ?_; rintro e w' ⟨rfl, rfl⟩)
                    go_roundw
                    case rel => exact ⟨k + 1, by go_num, (congrArg (fun q => Value.bool (!q)) HB2.out).symm, by omega, HA.out⟩
                    case measure => simp [intOf]; omega
                  · have : br2 = false := by rw [hbk, decide_eq_false (p := 9 < s) g3, decide_eq_false (p := s < 7) g2]; simp
                    subst this
                    clear hbk
                    go_wp2_with (go_at_call 11; refine (kept_any hC2).mono ?_; rintro e w' ⟨rfl, rfl⟩)
                    go_roundw
                    case rel => exact ⟨k + 1, by go_num, (congrArg (fun q => Value.bool (!q)) HB2.out).symm, by omega, HA.out⟩
                    case measure => simp [intOf]; omega
            · have : br2 = true := by rw [hbk]; rfl
              subst this
              clear hbk
              by_cases g1 : (k : Int) < 7
              · go_wp2_with (go_at_call 11; refine (kept_any hC2).mono ?_; rintro e w' ⟨rfl, rfl⟩)
                go_roundw
                case rel => exact ⟨k + 1, by go_num, (congrArg (fun q => Value.bool (!q)) HB2.out).symm, by omega, HA.out⟩
                case measure => simp [intOf]; omega
              · by_cases g2 : s < 7
                · go_wp2_with (go_at_call 11; refine (kept_any hC2).mono ?_; rintro e w' ⟨rfl, rfl⟩)
                  go_roundw
                  case rel => exact ⟨k + 1, by go_num, (congrArg (fun q => Value.bool (!q)) HB2.out).symm, by omega, HA.out⟩
                  case measure => simp [intOf]; omega
                · by_cases g3 : 9 < s
                  · go_wp2_with (go_at_call 11; refine (kept_any hC2).mono ?_; rintro e w' ⟨rfl, rfl⟩)
                    go_roundw
                    case rel => exact ⟨k + 1, by go_num, (congrArg (fun q => Value.bool (!q)) HB2.out).symm, by omega, HA.out⟩
                    case measure => simp [intOf]; omega
                  · go_wp2_with (go_at_call 11; refine (kept_any hC2).mono ?_; rintro e w' ⟨rfl, rfl⟩)
                    go_roundw
                    case rel => exact ⟨k + 1, by go_num, (congrArg (fun q => Value.bool (!q)) HB2.out).symm, by omega, HA.out⟩
                    case measure => simp [intOf]; omega
    · obtain rfl : k = len0 := by omega
      have hge := hC.ge
      have hTm : TM.Tm (wr.alloc (.cells #[.int .i64 0, .bool false] 38)) wr.heap.size 0 false := Blk.new _ _ _
      have hBt : Below W.heap.size W (wr.alloc (.cells #[.int .i64 0, .bool false] 38)) := hB.alloc hB.size _
      have hCt := hC.keeps ((Keeps.refl (fun _ => False) wr).alloc (.cells #[.int .i64 0, .bool false] 38)) (none_apart _)
      have hFl := hC.lt
      have hge2 : ∀ i, only wr.heap.size i → W.heap.size ≤ i := fun i hi => by rw [show i = wr.heap.size from hi]; exact hB.size
      have hap : Apart F (only wr.heap.size) := fun i h1 h2 => by have := hFl i h1; rw [show i = wr.heap.size from h2] at this; omega
      clear hC
      go_wp2_with fail
      refine (TM.set_any hTm a1).mono ?_; rintro e x1 ⟨rfl, t1, k1⟩
      have b1 := k1.after hBt hge2 hBt.size
      have d1 := hCt.keeps k1 hap
      clear hTm hBt hCt
      go_wp2_with fail
      refine (alive_any _).mono ?_; rintro e x2 ⟨rfl, hb⟩
      have t2 := t1.below hb t1.lt
      have b2 := b1.trans (hb.mono b1.size)
      have d2 := d1.keeps (Keeps.of_below hb (fun _ => False)) (none_apart _)
      clear t1 b1 d1 hb
      go_wp2_with fail
      refine (TM.due_yes t2 a1 (by omega)).mono ?_; rintro e x3 ⟨rfl, t3, k3⟩
      have b3 := k3.after b2 hge2 b2.size
      have d3 := d2.keeps k3 hap
      clear t2 b2 d2
      go_wp2_with fail
      refine (TM.due_off t3 a1).mono ?_; rintro e w' ⟨rfl, rfl⟩
      go_wp2_with fail
      refine (TM.left_off t3 a1).mono ?_; rintro e w' ⟨rfl, rfl⟩
      go_wp2_with fail
      refine (real_any d3).mono ?_; rintro e w' ⟨rfl, rfl⟩
      go_wp2_with fail
      go_ret
      exact ⟨rfl, b3⟩
end Go.Proofs.Ytepemmommldbeaa.clockSlow
