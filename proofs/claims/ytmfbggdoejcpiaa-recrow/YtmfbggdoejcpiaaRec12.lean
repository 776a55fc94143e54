/- commonslaw11.alive. No condition. -/
import Derived.Test.YtmfbggdoejcpiaaRec11
namespace Go.Proofs.Ytmfbggdoejcpiaa.RC
open Go.RowKit Go.Proofs.Ytmfbggdoejcpiaa.WI Go.Proofs.Ytmfbggdoejcpiaa.SM
set_option linter.unusedVariables false
set_option linter.unusedSimpArgs false

set_option maxHeartbeats 8000000 in
theorem alive_any (w : World) : Calls Try.prog 8 #[] w (Quiet w) := by
  have kp := fun W => put_ok 1 2 (some ⟨W.heap.size, 0, none⟩) 1 1 [im3] _ (ims3 W) fits3 (by decide) (by decide)
  obtain ⟨T, hT⟩ : ∃ T, putT 1 2 [im3] = T := ⟨_, rfl⟩
  have hps : T.size = 192 := by rw [← hT]; unfold putT; rw [putK_size]; rfl
  rw [hT] at kp
  have kg := fun W => get_ok (T ++ ⟨#[120]⟩) (by rw [ByteArray.size_append, hps]; decide) 1 2 [im3] 1 3 rfl rfl fits3 im3_ok (by decide) (by decide) (by rw [ByteArray.size_append, hps]; decide) (by rw [hT, show 64 * 3 = T.size by rw [hps]]; exact ByteArray.extract_append_eq_left rfl) W
  have kh := fun W => put_head 1 1 0 (by decide) (by decide) (by decide) W
  have kgh := fun W => get_head 1 1 0 (by decide) (by decide) (by decide) W
  have hz : ¬ 9223372036854775807 < T.size + (⟨#[120]⟩ : ByteArray).size := by rw [hps]; decide
  have hz' : ¬ 9223372036854775807 < T.size + 1 := by rw [hps]; omega
  have km := fun W => most_any 33 (by decide) W
  rw [show ((mostN 33 : Nat) : Int) = 6 by decide +kernel] at km
  have ks1 := fun W => sectors_any 1 W
  have ks2 := fun W => sectors_any 2 W
  rw [show secsI 1 = 3 by decide +kernel] at ks1
  rw [show secsI 2 = 6 by decide +kernel] at ks2
  generalize headT 1 1 0 = HT at *
  obtain ⟨D, hD⟩ : ∃ D, d3 = D := ⟨_, rfl⟩
  have ko := fun W => one_3 W
  have e3 : iagg im3 = .agg #[.int .i64 3, .int .u64 4, .string D] := by rw [← hD]; rfl
  rw [hD] at kp
  rw [e3] at ko
  clear hps hD e3 hT
  go_enter Try.func8, Try.ntmps8
  go_upto_region 2 with (first
    | (go_at_call 17; refine (ko _).mono ?_; rintro x w1 ⟨rfl, hb1⟩; have B1 := Lib.hid hb1; clear hb1)
    | (go_at_call 9; refine (kp _).mono ?_; rintro x w2 ⟨rfl, hb2⟩; have B2 := Lib.hid (belowThen (belowNew B1.out _) hb2); clear hb2 B1))
  go_upto_region 3 with (first
    | (go_at_call 10; refine (kg _).mono ?_; rintro x w3 ⟨A, c, rfl, _, hb3⟩; have B3 := Lib.hid (belowNew (belowThen B2.out hb3) (.cells #[.int .u64 1, .int .u64 2, .slice A 1 c] 25)); have HX := Lib.hid (Blk.new w3 25 #[.int .u64 1, .int .u64 2, .slice A 1 c]); clear hb3 B2))
  go_upto_region 4 with (first
    | (go_at_call 14; refine (kh _).mono ?_; rintro x w4 ⟨rfl, hb4⟩; have B4 := Lib.hid (belowThen B3.out hb4); have HX4 := Lib.hid (HX.out.below hb4 HX.out.lt); clear hb4 B3 HX))
  go_upto_region 5 with (first
    | (go_at_call 15; refine (kgh _).mono ?_; rintro x w5 ⟨rfl, hb5⟩; have B5 := Lib.hid (belowNew (belowThen B4.out hb5) (.cells #[.int .u64 1, .int .u64 1, .int .i64 0] 39)); have hx5 := HX4.out.below hb5 HX4.out.lt; have HY := Lib.hid (Blk.new w5 39 #[.int .u64 1, .int .u64 1, .int .i64 0]); have HX5 := Lib.hid (hx5.below (belowNew (belowSame w5) (.cells #[.int .u64 1, .int .u64 1, .int .i64 0] 39)) hx5.lt); clear hb5 B4 HX4 hx5))
  go_wp2_with (first
    | (go_at_call 11; with_reducible refine (ks1 _).mono ?_; rintro x w6 ⟨rfl, rfl⟩)
    | (go_at_call 11; with_reducible refine (ks2 _).mono ?_; rintro x w7 ⟨rfl, rfl⟩)
    | (go_at_call 13; refine (km _).mono ?_; rintro x w8 ⟨rfl, hb8⟩; have B8 := Lib.hid (belowThen B5.out hb8); have hx8 := HX5.out.below hb8 HX5.out.lt; have hy8 := HY.out.below hb8 HY.out.lt; have x1 : w8.cell? ⟨w3.heap.size, 1, none⟩ = some (.int .u64 2) := hx8.cell 1; have x2 : w8.cell? ⟨w3.heap.size, 2, none⟩ = some (.slice A 1 c) := hx8.cell 2; have y0 : w8.cell? ⟨w5.heap.size, 0, none⟩ = some (.int .u64 1) := hy8.cell 0; clear hb8 B5 hx8 hy8 HX5 HY))
  exact end_ret (t := 0) (v := .bool true) (by kernel_rfl) rfl rfl ⟨rfl, B8.out⟩

end Go.Proofs.Ytmfbggdoejcpiaa.RC
