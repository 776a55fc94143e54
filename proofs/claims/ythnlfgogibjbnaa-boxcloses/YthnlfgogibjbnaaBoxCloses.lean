/- BoxCloses: the walk. No condition. -/
import Derived.Test.YthnlfgogibjbnaaBoxed
import Derived.Test.YthnlfgogibjbnaaOpen
namespace Go.Proofs.Ythnlfgogibjbnaa.boxCloses
open Go.RowKit
set_option linter.unusedVariables false

def At (w : World) (most : Nat) (cl : Bool) (xs : List Int) (wr : World) : Prop := Below w.heap.size w wr ∧ BoxAt BX.val 59 wr w.heap.size (w.heap.size + 1) w.heap.size most cl xs
theorem At.out {w wr w' : World} {most : Nat} {cl cl' : Bool} {xs ys : List Int} (h : At w most cl xs wr) (ho : BX.Out wr w.heap.size (w.heap.size + 1) w.heap.size most cl' ys w') : At w most cl' ys w' := ⟨h.2.after h.1 ho.2, ho.1⟩

set_option maxRecDepth 100000 in
theorem walk (a0 : Option Addr) (len0 cap0 : Nat) (z0 : List Int) (w : World) (w0 : IsRow .i64 w a0 len0 cap0 z0) :
    Calls Try.prog 9 #[.slice a0 len0 cap0] w fun e w' => e = .returned (.bool true) ∧ Below w.heap.size w w' := by
  obtain ⟨hl1, hl2, hl3⟩ := w0.len
  unfold maxLen at hl2
  by_cases c1 : (60 : Int) < len0
  · go_enter Try.func9, Try.ntmps9
    go_wp2_with (go_at_call 28; refine (BX.boxed_any _).mono ?_; rintro e w' ⟨rfl, hb⟩)
    go_ret
    exact ⟨rfl, hb⟩
  have hroom : RI.roomOf (len0 : Int) = len0 := by unfold RI.roomOf; omega
  have W0 := Lib.hid w0
  clear w0
  have HRM := Lib.hid hroom
  clear hroom
  go_enter Try.func9, Try.ntmps9
  go_wp2_with fail
  refine (BX.new_any _ _).mono ?_
  rintro e w1 ⟨rfl, h1, k1⟩
  rw [HRM.out] at h1
  have A1 := Lib.hid (show At w len0 false [] w1 from ⟨k1.belowW, h1⟩)
  clear h1 k1
  go_wp2_with fail
  go_loopw [4] (fun i wr => ∃ K : Nat, i = .int .i64 (K : Int) ∧ K ≤ len0 ∧ At w len0 false (z0.take K) wr) (fun i _ => len0 - (intOf i).toNat)
  case atStart => exact ⟨0, rfl, by omega, A1.out⟩
  case round =>
    clear A1
    obtain ⟨K, rfl, hK, hA⟩ := hrel
    have HA := Lib.hid hA
    clear hA
    by_cases hlt : K < len0
    · obtain ⟨b, off, rfl, hb, hc⟩ := W0.out.cells (by omega)
      obtain ⟨x, hx⟩ : ∃ x, z0.getD K 0 = x := ⟨_, rfl⟩
      have hcell : wr.cell? ⟨b, off + K, none⟩ = some (.int .i64 x) := by rw [← hx]; exact (HA.out.1.cell hb).trans (hc K hlt)
      have hts : z0.take (K + 1) = z0.take K ++ [x] := by
        rw [List.take_succ_eq_append_getElem (by omega), ← hx]
        simp [List.getElem?_eq_getElem (show K < z0.length by omega)]
      have HTS := Lib.hid hts
      clear hx hc hts
      go_wp2_with fail
      refine (BX.send_room x HA.out.2 (by simp; omega)).mono ?_
      rintro e w2 ⟨rfl, h2⟩
      have A2 := Lib.hid (HA.out.out h2)
      clear h2
      go_wp2_with fail
      go_roundw
      case rel => exact ⟨K + 1, by go_num, by omega, by rw [HTS.out]; exact A2.out⟩
      case measure => simp [intOf]; omega
    · obtain rfl : K = len0 := by omega
      have hzl : (z0.take K).length = K := by rw [List.length_take]; omega
      obtain ⟨xs, hxs⟩ : ∃ xs, z0.take K = xs := ⟨_, rfl⟩
      rw [hxs] at hzl HA
      have HXS := Lib.hid hxs
      have HZL := Lib.hid hzl
      clear hxs hzl
      go_wp2_with fail
      refine (BX.close_open HA.out.2).mono ?_
      rintro e w2 ⟨rfl, h2⟩
      have A2 := Lib.hid (HA.out.out h2)
      clear h2 HA
      go_wp2_with fail
      refine (BX.close_shut A2.out.2).mono ?_
      rintro e w3 ⟨rfl, h3⟩
      have A3 := Lib.hid (A2.out.out h3)
      clear h3 A2
      go_wp2_with fail
      refine (BX.send_shut 1 A3.out.2).mono ?_
      rintro e w4 ⟨rfl, h4⟩
      have A4 := Lib.hid (A3.out.out h4)
      clear h4 A3
      go_wp2_with fail
      refine (BX.len_any A4.out.2).mono ?_
      rintro e w5 ⟨rfl, rfl⟩
      rw [HZL.out]
      go_wp2_with fail
      go_loopw [5] (fun i wr => ∃ J : Nat, i = .int .i64 (J : Int) ∧ J ≤ K ∧ At w K true (xs.drop J) wr) (fun i _ => K - (intOf i).toNat)
      case atStart => exact ⟨0, rfl, by omega, A4.out⟩
      case round =>
        clear A4
        obtain ⟨J, rfl, hJ, hA⟩ := hrel
        have HA := Lib.hid hA
        clear hA
        by_cases hlt2 : J < K
        · obtain ⟨b, off, rfl, hb, hc⟩ := W0.out.cells (by omega)
          obtain ⟨x, hx⟩ : ∃ x, z0.getD J 0 = x := ⟨_, rfl⟩
          have hc0 : w.cell? ⟨b, off + J, none⟩ = some (.int .i64 x) := by rw [← hx]; exact hc J hlt2
          have C0 := Lib.hid hc0
          have hds : xs.drop J = x :: xs.drop (J + 1) := by
            have hjl : J < xs.length := by rw [HZL.out]; exact hlt2
            rw [List.drop_eq_getElem_cons hjl, ← hx]
            congr 1
            have := HXS.out
            subst this
            simp [List.getElem?_eq_getElem (show J < z0.length by omega)]
          have H1 := HA.out.2
          rw [hds] at H1
          clear hx hc hc0 hds
          go_wp2_with fail
          refine (BX.take_cons H1).mono ?_
          rintro e w6 ⟨rfl, h6⟩
          have A6 := Lib.hid (At.out (xs := x :: xs.drop (J + 1)) ⟨HA.out.1, H1⟩ h6)
          have hcell : w6.cell? ⟨b, off + J, none⟩ = some (.int .i64 x) := (A6.out.1.cell hb).trans C0.out
          clear h6 H1
          go_wp2_with fail
          go_roundw
          case rel => exact ⟨J + 1, by go_num, by omega, A6.out⟩
          case measure => simp [intOf]; omega
        · obtain rfl : J = K := by omega
          have H1 := HA.out.2
          rw [List.drop_of_length_le (by rw [HZL.out]; exact Nat.le_refl _)] at H1
          go_wp2_with fail
          refine (BX.take_shut H1).mono ?_
          rintro e w6 ⟨rfl, rfl⟩
          go_wp2_with fail
          refine (BX.boxed_any _).mono ?_
          rintro e w7 ⟨rfl, hb⟩
          have H2 := H1.below hb (fun k hk => H1.lt k hk)
          have hb2 := HA.out.1.trans (hb.mono HA.out.1.size)
          clear hb
          go_wp2_with fail
          refine (BX.len_any H2).mono ?_
          rintro e w8 ⟨rfl, rfl⟩
          go_wp2_with fail
          go_ret
          exact ⟨rfl, hb2⟩
end Go.Proofs.Ythnlfgogibjbnaa.boxCloses
