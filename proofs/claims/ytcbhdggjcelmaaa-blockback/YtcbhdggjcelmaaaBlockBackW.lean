/- BlockBack: the walk. No condition. -/
import Derived.Test.YtcbhdggjcelmaaaM3
namespace Go.Proofs.Ytcbhdggjcelmaaa.blockBack
set_option maxRecDepth 100000
open Go.RowKit Go.Proofs.Ytcbhdggjcelmaaa.BK Go.Proofs.Ytcbhdggjcelmaaa.SM
set_option linter.unusedVariables false
set_option linter.unusedSimpArgs false

theorem heavy (x : Im) (n p q : Int) (w : World) (hx : ImOk x) (h : 300 < x.d.size) : Calls Try.prog 4 #[iagg x, .int .i64 n, .int .i64 p, .int .i64 q] w fun e w' => e = .returned (.bool true) ∧ Below w.heap.size w w' := by
  have hd := hx.d
  obtain ⟨xb, xv, xd⟩ := x
  dsimp only at h hd
  unfold iagg
  dsimp only
  obtain ⟨s, hs⟩ : ∃ s, xd.size = s := ⟨_, rfl⟩
  have ka := fun W => BK.alive_any W
  unfold BK.Quiet at ka
  have hbn := Blk.new w TIm #[.int .i64 xb, .int .u64 xv, .string xd]
  have hb0 := belowNew (belowSame w) (.cells #[.int .i64 xb, .int .u64 xv, .string xd] TIm)
  obtain ⟨W0, hW0⟩ : ∃ W0, w.alloc (.cells #[.int .i64 xb, .int .u64 xv, .string xd] TIm) = W0 := ⟨_, rfl⟩
  rw [hW0] at hbn hb0
  have c0 : W0.cell? ⟨w.heap.size, 0, none⟩ = some (.int .i64 xb) := hbn.cell 0
  have c1 : W0.cell? ⟨w.heap.size, 1, none⟩ = some (.int .u64 xv) := hbn.cell 1
  have c2 : W0.cell? ⟨w.heap.size, 2, none⟩ = some (.string xd) := hbn.cell 2
  have HBN := Lib.hid hbn
  have HB0 := Lib.hid hb0
  have HW0 := Lib.hid hW0
  clear hbn hb0 hW0
  have n1 : decide ((300 : Int) < (xd.size : Int)) = true := by simp; omega
  clear h hx hd hs
  go_enter Try.func4, Try.ntmps4
  go_upto_region 1 with fail
  rw [HW0.out]
  go_wp2_with (go_at_call 6; refine (ka _).mono ?_; rintro x w2 ⟨rfl, hb⟩; have B2 := Lib.hid (belowThen HB0.out hb); clear hb)
  exact end_ret (t := 8) (v := .bool true) (by kernel_rfl) rfl rfl ⟨rfl, B2.out⟩
theorem bad (x : Im) (n p q : Int) (w : World) (hx : ImOk x) (h : x.d.size ≤ 300) (hr : rightB x = false) : Calls Try.prog 4 #[iagg x, .int .i64 n, .int .i64 p, .int .i64 q] w fun e w' => e = .returned (.bool true) ∧ Below w.heap.size w w' := by
  have kp := fun W => put_bad x hx hr W
  obtain ⟨xb, xv, xd⟩ := x
  dsimp only at h
  unfold iagg at *
  dsimp only at kp ⊢
  have ka := fun W => BK.alive_any W
  unfold BK.Quiet at ka
  have hbn := Blk.new w TIm #[.int .i64 xb, .int .u64 xv, .string xd]
  have hb0 := belowNew (belowSame w) (.cells #[.int .i64 xb, .int .u64 xv, .string xd] TIm)
  obtain ⟨W0, hW0⟩ : ∃ W0, w.alloc (.cells #[.int .i64 xb, .int .u64 xv, .string xd] TIm) = W0 := ⟨_, rfl⟩
  rw [hW0] at hbn hb0
  have c0 : W0.cell? ⟨w.heap.size, 0, none⟩ = some (.int .i64 xb) := hbn.cell 0
  have c1 : W0.cell? ⟨w.heap.size, 1, none⟩ = some (.int .u64 xv) := hbn.cell 1
  have c2 : W0.cell? ⟨w.heap.size, 2, none⟩ = some (.string xd) := hbn.cell 2
  have HBN := Lib.hid hbn
  have HB0 := Lib.hid hb0
  have HW0 := Lib.hid hW0
  clear hbn hb0 hW0
  have n1 : decide ((300 : Int) < (xd.size : Int)) = false := by simp; omega
  clear h hx hr
  go_enter Try.func4, Try.ntmps4
  go_upto_region 1 with fail
  rw [HW0.out]
  go_wp2_with (first
    | (go_at_call 7; refine (kp _).mono ?_; rintro x w1 ⟨rfl, hb1⟩; have B1 := Lib.hid (belowThen HB0.out hb1); clear hb1)
    | (go_at_call 6; refine (ka _).mono ?_; rintro x w2 ⟨rfl, hb⟩; have B2 := Lib.hid (belowThen B1.out hb); clear hb))
  exact end_ret (t := 8) (v := .bool true) (by kernel_rfl) rfl rfl ⟨rfl, B2.out⟩
set_option maxHeartbeats 8000000 in
theorem short01 (x : Im) (p q : Int) (w : World) (hg : BK.Good x) (hpq : p < 0) : Calls Try.prog 4 #[iagg x, .int .i64 x.b, .int .i64 p, .int .i64 q] w fun e w' => e = .returned (.bool true) ∧ Below w.heap.size w w' := by
  have kp := fun W => put_ok x hg W
  have kg := fun W => get_any x.b (putT x) W
  rw [get_put hg] at kg
  have hsz := putT_size hg.d
  have hd96 := hg.d
  obtain ⟨xb, xv, xd⟩ := x
  dsimp only at hd96
  obtain ⟨T, hT⟩ : ∃ T, putT ⟨xb, xv, xd⟩ = T := ⟨_, rfl⟩
  rw [hT] at kp kg hsz 
  unfold iagg at *
  dsimp only at kp kg  ⊢
  have hs128 : (T.size : Int) = 128 := by omega
  have z0 : (xb == xb) = true := by simp
  have z1 : (xv == xv) = true := by simp
  have z2 : (xd.toList == xd.toList) = true := by simp
  have n0 : decide ((300 : Int) < (xd.size : Int)) = false := by simp; omega
  have kn := kg
  have n1 : decide (p < 0) = true := by simpa using hpq
  have ka := fun W => BK.alive_any W
  unfold BK.Quiet at ka
  have hbn := Blk.new w TIm #[.int .i64 xb, .int .u64 xv, .string xd]
  have hb0 := belowNew (belowSame w) (.cells #[.int .i64 xb, .int .u64 xv, .string xd] TIm)
  obtain ⟨W0, hW0⟩ : ∃ W0, w.alloc (.cells #[.int .i64 xb, .int .u64 xv, .string xd] TIm) = W0 := ⟨_, rfl⟩
  rw [hW0] at hbn hb0
  have c0 : W0.cell? ⟨w.heap.size, 0, none⟩ = some (.int .i64 xb) := hbn.cell 0
  have c1 : W0.cell? ⟨w.heap.size, 1, none⟩ = some (.int .u64 xv) := hbn.cell 1
  have c2 : W0.cell? ⟨w.heap.size, 2, none⟩ = some (.string xd) := hbn.cell 2
  have HBN := Lib.hid hbn
  have HB0 := Lib.hid hb0
  have HW0 := Lib.hid hW0
  clear hbn hb0 hW0
  clear hg hsz hd96 hT hpq
  go_enter Try.func4, Try.ntmps4
  go_upto_region 1 with fail
  rw [HW0.out]
  go_upto_region 7 with (first
    | (go_at_call 7; refine (kp _).mono ?_; rintro x w1 ⟨rfl, hb1⟩; have bk := HBN.out.below hb1 HBN.out.lt; have p1_0 : w1.cell? ⟨w.heap.size, 0, none⟩ = some (.int .i64 xb) := bk.cell 0; have p1_1 : w1.cell? ⟨w.heap.size, 1, none⟩ = some (.int .u64 xv) := bk.cell 1; have p1_2 : w1.cell? ⟨w.heap.size, 2, none⟩ = some (.string xd) := bk.cell 2; have HN1 := Lib.hid bk; have B1 := Lib.hid (belowThen HB0.out hb1); clear hb1 bk)
    | (go_at_call 9; refine (kg _).mono ?_; rintro x w2 ⟨rfl, hb⟩; have hb2 := belowNew hb (.cells #[.int .i64 xb, .int .u64 xv, .string xd] TIm); have bk := HN1.out.below hb2 HN1.out.lt; have r2_0 : (w2.alloc (.cells #[.int .i64 xb, .int .u64 xv, .string xd] TIm)).cell? ⟨w.heap.size, 0, none⟩ = some (.int .i64 xb) := bk.cell 0; have r2_1 : (w2.alloc (.cells #[.int .i64 xb, .int .u64 xv, .string xd] TIm)).cell? ⟨w.heap.size, 1, none⟩ = some (.int .u64 xv) := bk.cell 1; have r2_2 : (w2.alloc (.cells #[.int .i64 xb, .int .u64 xv, .string xd] TIm)).cell? ⟨w.heap.size, 2, none⟩ = some (.string xd) := bk.cell 2; have HN2 := Lib.hid bk; have B2 := Lib.hid (belowThen B1.out hb2); clear hb hb2 bk p1_0 p1_1 p1_2))
  go_upto_region 10 with (go_at_call 9; refine (kn _).mono ?_; rintro x w3 ⟨rfl, hb⟩; have hb2 := belowNew hb (.cells #[.int .i64 xb, .int .u64 xv, .string xd] TIm); have bk := HN2.out.below hb2 HN2.out.lt; have r3_0 : (w3.alloc (.cells #[.int .i64 xb, .int .u64 xv, .string xd] TIm)).cell? ⟨w.heap.size, 0, none⟩ = some (.int .i64 xb) := bk.cell 0; have r3_1 : (w3.alloc (.cells #[.int .i64 xb, .int .u64 xv, .string xd] TIm)).cell? ⟨w.heap.size, 1, none⟩ = some (.int .u64 xv) := bk.cell 1; have r3_2 : (w3.alloc (.cells #[.int .i64 xb, .int .u64 xv, .string xd] TIm)).cell? ⟨w.heap.size, 2, none⟩ = some (.string xd) := bk.cell 2; have HN3 := Lib.hid bk; have B3 := Lib.hid (belowThen B2.out hb2); clear hb hb2 bk r2_0 r2_1 r2_2)
  go_wp2_with (go_at_call 6; refine (ka _).mono ?_; rintro x w4 ⟨rfl, hb⟩; have bk := HN3.out.below hb HN3.out.lt; have qw4_0 : w4.cell? ⟨w.heap.size, 0, none⟩ = some (.int .i64 xb) := bk.cell 0; have qw4_1 : w4.cell? ⟨w.heap.size, 1, none⟩ = some (.int .u64 xv) := bk.cell 1; have qw4_2 : w4.cell? ⟨w.heap.size, 2, none⟩ = some (.string xd) := bk.cell 2; have Bw4 := Lib.hid (belowThen B3.out hb); clear hb bk)
  exact end_ret (t := 8) (v := .bool true) (by kernel_rfl) rfl rfl ⟨rfl, Bw4.out⟩
set_option maxHeartbeats 8000000 in
theorem short11 (x : Im) (p q : Int) (w : World) (hg : BK.Good x) (hp : 0 ≤ p) (hq : q % 256 = 0) : Calls Try.prog 4 #[iagg x, .int .i64 x.b, .int .i64 p, .int .i64 q] w fun e w' => e = .returned (.bool true) ∧ Below w.heap.size w w' := by
  have kp := fun W => put_ok x hg W
  have kg := fun W => get_any x.b (putT x) W
  rw [get_put hg] at kg
  have hsz := putT_size hg.d
  have hd96 := hg.d
  obtain ⟨xb, xv, xd⟩ := x
  dsimp only at hd96
  obtain ⟨T, hT⟩ : ∃ T, putT ⟨xb, xv, xd⟩ = T := ⟨_, rfl⟩
  rw [hT] at kp kg hsz 
  unfold iagg at *
  dsimp only at kp kg  ⊢
  have hs128 : (T.size : Int) = 128 := by omega
  have z0 : (xb == xb) = true := by simp
  have z1 : (xv == xv) = true := by simp
  have z2 : (xd.toList == xd.toList) = true := by simp
  have n0 : decide ((300 : Int) < (xd.size : Int)) = false := by simp; omega
  have kn := kg
  have n1 : decide (p < 0) = false := by simp; omega
  have n2 : ((q % 256 : Int) == 0) = true := by simp; omega
  have ka := fun W => BK.alive_any W
  unfold BK.Quiet at ka
  have hbn := Blk.new w TIm #[.int .i64 xb, .int .u64 xv, .string xd]
  have hb0 := belowNew (belowSame w) (.cells #[.int .i64 xb, .int .u64 xv, .string xd] TIm)
  obtain ⟨W0, hW0⟩ : ∃ W0, w.alloc (.cells #[.int .i64 xb, .int .u64 xv, .string xd] TIm) = W0 := ⟨_, rfl⟩
  rw [hW0] at hbn hb0
  have c0 : W0.cell? ⟨w.heap.size, 0, none⟩ = some (.int .i64 xb) := hbn.cell 0
  have c1 : W0.cell? ⟨w.heap.size, 1, none⟩ = some (.int .u64 xv) := hbn.cell 1
  have c2 : W0.cell? ⟨w.heap.size, 2, none⟩ = some (.string xd) := hbn.cell 2
  have HBN := Lib.hid hbn
  have HB0 := Lib.hid hb0
  have HW0 := Lib.hid hW0
  clear hbn hb0 hW0
  clear hg hsz hd96 hT hp hq
  go_enter Try.func4, Try.ntmps4
  go_upto_region 1 with fail
  rw [HW0.out]
  go_upto_region 7 with (first
    | (go_at_call 7; refine (kp _).mono ?_; rintro x w1 ⟨rfl, hb1⟩; have bk := HBN.out.below hb1 HBN.out.lt; have p1_0 : w1.cell? ⟨w.heap.size, 0, none⟩ = some (.int .i64 xb) := bk.cell 0; have p1_1 : w1.cell? ⟨w.heap.size, 1, none⟩ = some (.int .u64 xv) := bk.cell 1; have p1_2 : w1.cell? ⟨w.heap.size, 2, none⟩ = some (.string xd) := bk.cell 2; have HN1 := Lib.hid bk; have B1 := Lib.hid (belowThen HB0.out hb1); clear hb1 bk)
    | (go_at_call 9; refine (kg _).mono ?_; rintro x w2 ⟨rfl, hb⟩; have hb2 := belowNew hb (.cells #[.int .i64 xb, .int .u64 xv, .string xd] TIm); have bk := HN1.out.below hb2 HN1.out.lt; have r2_0 : (w2.alloc (.cells #[.int .i64 xb, .int .u64 xv, .string xd] TIm)).cell? ⟨w.heap.size, 0, none⟩ = some (.int .i64 xb) := bk.cell 0; have r2_1 : (w2.alloc (.cells #[.int .i64 xb, .int .u64 xv, .string xd] TIm)).cell? ⟨w.heap.size, 1, none⟩ = some (.int .u64 xv) := bk.cell 1; have r2_2 : (w2.alloc (.cells #[.int .i64 xb, .int .u64 xv, .string xd] TIm)).cell? ⟨w.heap.size, 2, none⟩ = some (.string xd) := bk.cell 2; have HN2 := Lib.hid bk; have B2 := Lib.hid (belowThen B1.out hb2); clear hb hb2 bk p1_0 p1_1 p1_2))
  go_upto_region 10 with (go_at_call 9; refine (kn _).mono ?_; rintro x w3 ⟨rfl, hb⟩; have hb2 := belowNew hb (.cells #[.int .i64 xb, .int .u64 xv, .string xd] TIm); have bk := HN2.out.below hb2 HN2.out.lt; have r3_0 : (w3.alloc (.cells #[.int .i64 xb, .int .u64 xv, .string xd] TIm)).cell? ⟨w.heap.size, 0, none⟩ = some (.int .i64 xb) := bk.cell 0; have r3_1 : (w3.alloc (.cells #[.int .i64 xb, .int .u64 xv, .string xd] TIm)).cell? ⟨w.heap.size, 1, none⟩ = some (.int .u64 xv) := bk.cell 1; have r3_2 : (w3.alloc (.cells #[.int .i64 xb, .int .u64 xv, .string xd] TIm)).cell? ⟨w.heap.size, 2, none⟩ = some (.string xd) := bk.cell 2; have HN3 := Lib.hid bk; have B3 := Lib.hid (belowThen B2.out hb2); clear hb hb2 bk r2_0 r2_1 r2_2)
  go_wp2_with (go_at_call 6; refine (ka _).mono ?_; rintro x w4 ⟨rfl, hb⟩; have bk := HN3.out.below hb HN3.out.lt; have qw4_0 : w4.cell? ⟨w.heap.size, 0, none⟩ = some (.int .i64 xb) := bk.cell 0; have qw4_1 : w4.cell? ⟨w.heap.size, 1, none⟩ = some (.int .u64 xv) := bk.cell 1; have qw4_2 : w4.cell? ⟨w.heap.size, 2, none⟩ = some (.string xd) := bk.cell 2; have Bw4 := Lib.hid (belowThen B3.out hb); clear hb bk)
  exact end_ret (t := 8) (v := .bool true) (by kernel_rfl) rfl rfl ⟨rfl, Bw4.out⟩
set_option maxHeartbeats 8000000 in
theorem short00 (x : Im) (n : Int) (p q : Int) (w : World) (hg : BK.Good x) (hn : n ≠ x.b) (hpq : p < 0) : Calls Try.prog 4 #[iagg x, .int .i64 n, .int .i64 p, .int .i64 q] w fun e w' => e = .returned (.bool true) ∧ Below w.heap.size w w' := by
  have kp := fun W => put_ok x hg W
  have kg := fun W => get_any x.b (putT x) W
  rw [get_put hg] at kg
  have kn := fun W => get_any n (putT x) W
  rw [get_other hg n hn] at kn
  have hsz := putT_size hg.d
  have hd96 := hg.d
  obtain ⟨xb, xv, xd⟩ := x
  dsimp only at hd96
  obtain ⟨T, hT⟩ : ∃ T, putT ⟨xb, xv, xd⟩ = T := ⟨_, rfl⟩
  rw [hT] at kp kg hsz kn
  unfold iagg at *
  dsimp only at kp kg kn hn ⊢
  have hs128 : (T.size : Int) = 128 := by omega
  have z0 : (xb == xb) = true := by simp
  have z1 : (xv == xv) = true := by simp
  have z2 : (xd.toList == xd.toList) = true := by simp
  have n0 : decide ((300 : Int) < (xd.size : Int)) = false := by simp; omega
  have m1 : (n == xb) = false := by simpa using hn
  have m1b : ¬ n = xb := hn
  have n1 : decide (p < 0) = true := by simpa using hpq
  have ka := fun W => BK.alive_any W
  unfold BK.Quiet at ka
  have hbn := Blk.new w TIm #[.int .i64 xb, .int .u64 xv, .string xd]
  have hb0 := belowNew (belowSame w) (.cells #[.int .i64 xb, .int .u64 xv, .string xd] TIm)
  obtain ⟨W0, hW0⟩ : ∃ W0, w.alloc (.cells #[.int .i64 xb, .int .u64 xv, .string xd] TIm) = W0 := ⟨_, rfl⟩
  rw [hW0] at hbn hb0
  have c0 : W0.cell? ⟨w.heap.size, 0, none⟩ = some (.int .i64 xb) := hbn.cell 0
  have c1 : W0.cell? ⟨w.heap.size, 1, none⟩ = some (.int .u64 xv) := hbn.cell 1
  have c2 : W0.cell? ⟨w.heap.size, 2, none⟩ = some (.string xd) := hbn.cell 2
  have HBN := Lib.hid hbn
  have HB0 := Lib.hid hb0
  have HW0 := Lib.hid hW0
  clear hbn hb0 hW0
  clear hg hsz hd96 hT hn hpq
  go_enter Try.func4, Try.ntmps4
  go_upto_region 1 with fail
  rw [HW0.out]
  go_upto_region 7 with (first
    | (go_at_call 7; refine (kp _).mono ?_; rintro x w1 ⟨rfl, hb1⟩; have bk := HBN.out.below hb1 HBN.out.lt; have p1_0 : w1.cell? ⟨w.heap.size, 0, none⟩ = some (.int .i64 xb) := bk.cell 0; have p1_1 : w1.cell? ⟨w.heap.size, 1, none⟩ = some (.int .u64 xv) := bk.cell 1; have p1_2 : w1.cell? ⟨w.heap.size, 2, none⟩ = some (.string xd) := bk.cell 2; have HN1 := Lib.hid bk; have B1 := Lib.hid (belowThen HB0.out hb1); clear hb1 bk)
    | (go_at_call 9; refine (kg _).mono ?_; rintro x w2 ⟨rfl, hb⟩; have hb2 := belowNew hb (.cells #[.int .i64 xb, .int .u64 xv, .string xd] TIm); have bk := HN1.out.below hb2 HN1.out.lt; have r2_0 : (w2.alloc (.cells #[.int .i64 xb, .int .u64 xv, .string xd] TIm)).cell? ⟨w.heap.size, 0, none⟩ = some (.int .i64 xb) := bk.cell 0; have r2_1 : (w2.alloc (.cells #[.int .i64 xb, .int .u64 xv, .string xd] TIm)).cell? ⟨w.heap.size, 1, none⟩ = some (.int .u64 xv) := bk.cell 1; have r2_2 : (w2.alloc (.cells #[.int .i64 xb, .int .u64 xv, .string xd] TIm)).cell? ⟨w.heap.size, 2, none⟩ = some (.string xd) := bk.cell 2; have HN2 := Lib.hid bk; have B2 := Lib.hid (belowThen B1.out hb2); clear hb hb2 bk p1_0 p1_1 p1_2))
  go_upto_region 10 with (go_at_call 9; refine (kn _).mono ?_; rintro x w3 ⟨rfl, hb⟩; have hb2 := belowNew hb (.cells #[.int .i64 0, .int .u64 0, .string ⟨#[]⟩] TIm); have bk := HN2.out.below hb2 HN2.out.lt; have r3_0 : (w3.alloc (.cells #[.int .i64 0, .int .u64 0, .string ⟨#[]⟩] TIm)).cell? ⟨w.heap.size, 0, none⟩ = some (.int .i64 xb) := bk.cell 0; have r3_1 : (w3.alloc (.cells #[.int .i64 0, .int .u64 0, .string ⟨#[]⟩] TIm)).cell? ⟨w.heap.size, 1, none⟩ = some (.int .u64 xv) := bk.cell 1; have r3_2 : (w3.alloc (.cells #[.int .i64 0, .int .u64 0, .string ⟨#[]⟩] TIm)).cell? ⟨w.heap.size, 2, none⟩ = some (.string xd) := bk.cell 2; have HN3 := Lib.hid bk; have B3 := Lib.hid (belowThen B2.out hb2); clear hb hb2 bk r2_0 r2_1 r2_2)
  go_wp2_with (go_at_call 6; refine (ka _).mono ?_; rintro x w4 ⟨rfl, hb⟩; have bk := HN3.out.below hb HN3.out.lt; have qw4_0 : w4.cell? ⟨w.heap.size, 0, none⟩ = some (.int .i64 xb) := bk.cell 0; have qw4_1 : w4.cell? ⟨w.heap.size, 1, none⟩ = some (.int .u64 xv) := bk.cell 1; have qw4_2 : w4.cell? ⟨w.heap.size, 2, none⟩ = some (.string xd) := bk.cell 2; have Bw4 := Lib.hid (belowThen B3.out hb); clear hb bk)
  exact end_ret (t := 8) (v := .bool true) (by kernel_rfl) rfl rfl ⟨rfl, Bw4.out⟩
set_option maxHeartbeats 8000000 in
theorem short10 (x : Im) (n : Int) (p q : Int) (w : World) (hg : BK.Good x) (hn : n ≠ x.b) (hp : 0 ≤ p) (hq : q % 256 = 0) : Calls Try.prog 4 #[iagg x, .int .i64 n, .int .i64 p, .int .i64 q] w fun e w' => e = .returned (.bool true) ∧ Below w.heap.size w w' := by
  have kp := fun W => put_ok x hg W
  have kg := fun W => get_any x.b (putT x) W
  rw [get_put hg] at kg
  have kn := fun W => get_any n (putT x) W
  rw [get_other hg n hn] at kn
  have hsz := putT_size hg.d
  have hd96 := hg.d
  obtain ⟨xb, xv, xd⟩ := x
  dsimp only at hd96
  obtain ⟨T, hT⟩ : ∃ T, putT ⟨xb, xv, xd⟩ = T := ⟨_, rfl⟩
  rw [hT] at kp kg hsz kn
  unfold iagg at *
  dsimp only at kp kg kn hn ⊢
  have hs128 : (T.size : Int) = 128 := by omega
  have z0 : (xb == xb) = true := by simp
  have z1 : (xv == xv) = true := by simp
  have z2 : (xd.toList == xd.toList) = true := by simp
  have n0 : decide ((300 : Int) < (xd.size : Int)) = false := by simp; omega
  have m1 : (n == xb) = false := by simpa using hn
  have m1b : ¬ n = xb := hn
  have n1 : decide (p < 0) = false := by simp; omega
  have n2 : ((q % 256 : Int) == 0) = true := by simp; omega
  have ka := fun W => BK.alive_any W
  unfold BK.Quiet at ka
  have hbn := Blk.new w TIm #[.int .i64 xb, .int .u64 xv, .string xd]
  have hb0 := belowNew (belowSame w) (.cells #[.int .i64 xb, .int .u64 xv, .string xd] TIm)
  obtain ⟨W0, hW0⟩ : ∃ W0, w.alloc (.cells #[.int .i64 xb, .int .u64 xv, .string xd] TIm) = W0 := ⟨_, rfl⟩
  rw [hW0] at hbn hb0
  have c0 : W0.cell? ⟨w.heap.size, 0, none⟩ = some (.int .i64 xb) := hbn.cell 0
  have c1 : W0.cell? ⟨w.heap.size, 1, none⟩ = some (.int .u64 xv) := hbn.cell 1
  have c2 : W0.cell? ⟨w.heap.size, 2, none⟩ = some (.string xd) := hbn.cell 2
  have HBN := Lib.hid hbn
  have HB0 := Lib.hid hb0
  have HW0 := Lib.hid hW0
  clear hbn hb0 hW0
  clear hg hsz hd96 hT hn hp hq
  go_enter Try.func4, Try.ntmps4
  go_upto_region 1 with fail
  rw [HW0.out]
  go_upto_region 7 with (first
    | (go_at_call 7; refine (kp _).mono ?_; rintro x w1 ⟨rfl, hb1⟩; have bk := HBN.out.below hb1 HBN.out.lt; have p1_0 : w1.cell? ⟨w.heap.size, 0, none⟩ = some (.int .i64 xb) := bk.cell 0; have p1_1 : w1.cell? ⟨w.heap.size, 1, none⟩ = some (.int .u64 xv) := bk.cell 1; have p1_2 : w1.cell? ⟨w.heap.size, 2, none⟩ = some (.string xd) := bk.cell 2; have HN1 := Lib.hid bk; have B1 := Lib.hid (belowThen HB0.out hb1); clear hb1 bk)
    | (go_at_call 9; refine (kg _).mono ?_; rintro x w2 ⟨rfl, hb⟩; have hb2 := belowNew hb (.cells #[.int .i64 xb, .int .u64 xv, .string xd] TIm); have bk := HN1.out.below hb2 HN1.out.lt; have r2_0 : (w2.alloc (.cells #[.int .i64 xb, .int .u64 xv, .string xd] TIm)).cell? ⟨w.heap.size, 0, none⟩ = some (.int .i64 xb) := bk.cell 0; have r2_1 : (w2.alloc (.cells #[.int .i64 xb, .int .u64 xv, .string xd] TIm)).cell? ⟨w.heap.size, 1, none⟩ = some (.int .u64 xv) := bk.cell 1; have r2_2 : (w2.alloc (.cells #[.int .i64 xb, .int .u64 xv, .string xd] TIm)).cell? ⟨w.heap.size, 2, none⟩ = some (.string xd) := bk.cell 2; have HN2 := Lib.hid bk; have B2 := Lib.hid (belowThen B1.out hb2); clear hb hb2 bk p1_0 p1_1 p1_2))
  go_upto_region 10 with (go_at_call 9; refine (kn _).mono ?_; rintro x w3 ⟨rfl, hb⟩; have hb2 := belowNew hb (.cells #[.int .i64 0, .int .u64 0, .string ⟨#[]⟩] TIm); have bk := HN2.out.below hb2 HN2.out.lt; have r3_0 : (w3.alloc (.cells #[.int .i64 0, .int .u64 0, .string ⟨#[]⟩] TIm)).cell? ⟨w.heap.size, 0, none⟩ = some (.int .i64 xb) := bk.cell 0; have r3_1 : (w3.alloc (.cells #[.int .i64 0, .int .u64 0, .string ⟨#[]⟩] TIm)).cell? ⟨w.heap.size, 1, none⟩ = some (.int .u64 xv) := bk.cell 1; have r3_2 : (w3.alloc (.cells #[.int .i64 0, .int .u64 0, .string ⟨#[]⟩] TIm)).cell? ⟨w.heap.size, 2, none⟩ = some (.string xd) := bk.cell 2; have HN3 := Lib.hid bk; have B3 := Lib.hid (belowThen B2.out hb2); clear hb hb2 bk r2_0 r2_1 r2_2)
  go_wp2_with (go_at_call 6; refine (ka _).mono ?_; rintro x w4 ⟨rfl, hb⟩; have bk := HN3.out.below hb HN3.out.lt; have qw4_0 : w4.cell? ⟨w.heap.size, 0, none⟩ = some (.int .i64 xb) := bk.cell 0; have qw4_1 : w4.cell? ⟨w.heap.size, 1, none⟩ = some (.int .u64 xv) := bk.cell 1; have qw4_2 : w4.cell? ⟨w.heap.size, 2, none⟩ = some (.string xd) := bk.cell 2; have Bw4 := Lib.hid (belowThen B3.out hb); clear hb bk)
  exact end_ret (t := 8) (v := .bool true) (by kernel_rfl) rfl rfl ⟨rfl, Bw4.out⟩
set_option maxHeartbeats 8000000 in
theorem long1 (x : Im) (q : Int) (k : Nat) (c : UInt8) (y : UInt8) (m : Nat) (w : World) (hg : BK.Good x) (hc : q % 256 = (c.toNat : Int)) (hc0 : (c.toNat : Int) ≠ 0) (hk : k % 128 = m) (hml : m < 128) (hy : (putT x).data.toList[m]? = some y) (hd : (putT x).data.toList[m]? ≠ some (y ^^^ c)) : Calls Try.prog 4 #[iagg x, .int .i64 x.b, .int .i64 (k : Int), .int .i64 q] w fun e w' => e = .returned (.bool true) ∧ Below w.heap.size w w' := by
  have kp := fun W => put_ok x hg W
  have kg := fun W => get_any x.b (putT x) W
  rw [get_put hg] at kg
  have kb := fun W => get_any x.b (setT (putT x) m (y ^^^ c)) W
  rw [get_changed hg m hml _ hd x.b] at kb
  have lenx : (putT x).data.toList.length = 128 := (Array.length_toList).trans (putT_size hg.d)
  have hsz := putT_size hg.d
  have hd96 := hg.d
  obtain ⟨xb, xv, xd⟩ := x
  dsimp only at hd96
  obtain ⟨T, hT⟩ : ∃ T, putT ⟨xb, xv, xd⟩ = T := ⟨_, rfl⟩
  rw [hT] at kp kg hsz hy lenx kb
  unfold iagg at *
  dsimp only at kp kg kb ⊢
  have hs128 : (T.size : Int) = 128 := by omega
  have z0 : (xb == xb) = true := by simp
  have z1 : (xv == xv) = true := by simp
  have z2 : (xd.toList == xd.toList) = true := by simp
  have n0 : decide ((300 : Int) < (xd.size : Int)) = false := by simp; omega
  have kn := kg
  have x2 := xor_u8 y c
  obtain ⟨dy, hdy⟩ : ∃ d, y ^^^ c = d := ⟨_, rfl⟩
  rw [hdy] at x2 kb
  have d1 : ((k : Int) % 128) = (m : Int) := by omega
  have n1 : decide ((k : Int) < 0) = false := by simp
  have n2 : ((c.toNat : Int) == 0) = false := by simpa using hc0
  have hd3 : (m : Int) < 128 := by omega
  have HY := Lib.hid hy
  have LX := Lib.hid lenx
  have HM := Lib.hid hml
  have ka := fun W => BK.alive_any W
  unfold BK.Quiet at ka
  have hbn := Blk.new w TIm #[.int .i64 xb, .int .u64 xv, .string xd]
  have hb0 := belowNew (belowSame w) (.cells #[.int .i64 xb, .int .u64 xv, .string xd] TIm)
  obtain ⟨W0, hW0⟩ : ∃ W0, w.alloc (.cells #[.int .i64 xb, .int .u64 xv, .string xd] TIm) = W0 := ⟨_, rfl⟩
  rw [hW0] at hbn hb0
  have c0 : W0.cell? ⟨w.heap.size, 0, none⟩ = some (.int .i64 xb) := hbn.cell 0
  have c1 : W0.cell? ⟨w.heap.size, 1, none⟩ = some (.int .u64 xv) := hbn.cell 1
  have c2 : W0.cell? ⟨w.heap.size, 2, none⟩ = some (.string xd) := hbn.cell 2
  have HBN := Lib.hid hbn
  have HB0 := Lib.hid hb0
  have HW0 := Lib.hid hW0
  clear hbn hb0 hW0
  have cv1 := fun W => Lib.run_convert_string_bytes (P := Try.prog) W 9 33 5 T Try.underlying9 Try.underlying33 Try.underlying5
  clear hg hsz hd96 hT hdy lenx hy hml hk hd hc0 
  go_enter Try.func4, Try.ntmps4
  go_upto_region 1 with fail
  rw [HW0.out]
  go_upto_region 7 with (first
    | (go_at_call 7; refine (kp _).mono ?_; rintro x w1 ⟨rfl, hb1⟩; have bk := HBN.out.below hb1 HBN.out.lt; have p1_0 : w1.cell? ⟨w.heap.size, 0, none⟩ = some (.int .i64 xb) := bk.cell 0; have p1_1 : w1.cell? ⟨w.heap.size, 1, none⟩ = some (.int .u64 xv) := bk.cell 1; have p1_2 : w1.cell? ⟨w.heap.size, 2, none⟩ = some (.string xd) := bk.cell 2; have HN1 := Lib.hid bk; have B1 := Lib.hid (belowThen HB0.out hb1); clear hb1 bk)
    | (go_at_call 9; refine (kg _).mono ?_; rintro x w2 ⟨rfl, hb⟩; have hb2 := belowNew hb (.cells #[.int .i64 xb, .int .u64 xv, .string xd] TIm); have bk := HN1.out.below hb2 HN1.out.lt; have r2_0 : (w2.alloc (.cells #[.int .i64 xb, .int .u64 xv, .string xd] TIm)).cell? ⟨w.heap.size, 0, none⟩ = some (.int .i64 xb) := bk.cell 0; have r2_1 : (w2.alloc (.cells #[.int .i64 xb, .int .u64 xv, .string xd] TIm)).cell? ⟨w.heap.size, 1, none⟩ = some (.int .u64 xv) := bk.cell 1; have r2_2 : (w2.alloc (.cells #[.int .i64 xb, .int .u64 xv, .string xd] TIm)).cell? ⟨w.heap.size, 2, none⟩ = some (.string xd) := bk.cell 2; have HN2 := Lib.hid bk; have B2 := Lib.hid (belowThen B1.out hb2); clear hb hb2 bk p1_0 p1_1 p1_2))
  go_upto_region 13 with (go_at_call 9; refine (kn _).mono ?_; rintro x w3 ⟨rfl, hb⟩; have hb2 := belowNew hb (.cells #[.int .i64 xb, .int .u64 xv, .string xd] TIm); have bk := HN2.out.below hb2 HN2.out.lt; have r3_0 : (w3.alloc (.cells #[.int .i64 xb, .int .u64 xv, .string xd] TIm)).cell? ⟨w.heap.size, 0, none⟩ = some (.int .i64 xb) := bk.cell 0; have r3_1 : (w3.alloc (.cells #[.int .i64 xb, .int .u64 xv, .string xd] TIm)).cell? ⟨w.heap.size, 1, none⟩ = some (.int .u64 xv) := bk.cell 1; have r3_2 : (w3.alloc (.cells #[.int .i64 xb, .int .u64 xv, .string xd] TIm)).cell? ⟨w.heap.size, 2, none⟩ = some (.string xd) := bk.cell 2; have HN3 := Lib.hid bk; have B3 := Lib.hid (belowThen B2.out hb2); clear hb hb2 bk r2_0 r2_1 r2_2)
  obtain ⟨WB, hWB⟩ : ∃ WB, w3.alloc (.cells #[.int .i64 xb, .int .u64 xv, .string xd] TIm) = WB := ⟨_, rfl⟩
  have B3b := B3.out
  have HN3b := HN3.out
  rw [hWB] at B3b HN3b ⊢
  have hsw : WB.heap.size = w3.heap.size + 1 := by rw [← hWB]; simp
  have b4 := below_bytes WB 5 T
  have k4 := cells_new WB 5 T
  have B4 := Lib.hid (belowThen B3b b4)
  have HN4 := Lib.hid (HN3b.below b4 HN3b.lt)
  have hg1 : w.heap.size + 1 ≤ w3.heap.size + 1 := by have h1 := HN3b.lt; omega
  generalize Lib.bytesWorld WB 5 T = w4 at b4 k4 B4 HN4 ⊢
  generalize grownCap WB T.size 0 5 = cap2
  rw [hsw] at k4
  obtain ⟨g2, hgg⟩ : ∃ g, w3.heap.size + 1 = g := ⟨_, rfl⟩
  rw [hgg] at hsw k4 hg1
  try rw [hsw]
  try rw [hgg]
  have e2 := (k4.2 m y HY.out).1
  have e2' := (k4.2 m y HY.out).2
  have KK := Lib.hid k4
  clear b4 hgg k4 cv1 hsw r3_0 r3_1 r3_2 B3b HN3b hWB
  go_upto_region 14 with fail
  have L2 := Lib.hid (KK.out.set_ m (by rw [LX.out]; exact HM.out) dy)
  have B5 := Lib.hid (show Below w.heap.size w (w4.setCell ⟨g2, m, none⟩ (.int .u8 (dy.toNat : Int))) from B4.out.setCell (by show w.heap.size ≤ g2; omega) _)
  have bk5 := HN4.out.far (p := ⟨g2, m, none⟩) (by show w.heap.size ≠ g2; omega) (.int .u8 (dy.toNat : Int))
  generalize w4.setCell ⟨g2, m, none⟩ (.int .u8 (dy.toNat : Int)) = W5 at L2 B5 bk5 ⊢
  have HN5 := Lib.hid bk5
  have s5_0 : W5.cell? ⟨w.heap.size, 0, none⟩ = some (.int .i64 xb) := bk5.cell 0
  have s5_1 : W5.cell? ⟨w.heap.size, 1, none⟩ = some (.int .u64 xv) := bk5.cell 1
  have s5_2 : W5.cell? ⟨w.heap.size, 2, none⟩ = some (.string xd) := bk5.cell 2
  have cvA := L2.out.str (P := Try.prog) 33 9 5 Try.underlying33 Try.underlying5 Try.underlying9 T.size cap2 (by rw [List.length_set, LX.out]; omega)
  rw [show (⟨(T.data.toList.set m dy).toArray⟩ : ByteArray) = setT T m dy from rfl] at cvA
  generalize setT T m dy = Y1 at cvA kb
  clear e2 e2' x2 KK B4 L2 bk5 hg1
  go_upto_region 15 with (go_at_call 9; refine (kb _).mono ?_; rintro x w6 ⟨rfl, hb⟩; have hb2 := belowNew hb (.cells #[.int .i64 0, .int .u64 0, .string ⟨#[]⟩] TIm); have bk := HN5.out.below hb2 HN5.out.lt; have r6_0 : (w6.alloc (.cells #[.int .i64 0, .int .u64 0, .string ⟨#[]⟩] TIm)).cell? ⟨w.heap.size, 0, none⟩ = some (.int .i64 xb) := bk.cell 0; have r6_1 : (w6.alloc (.cells #[.int .i64 0, .int .u64 0, .string ⟨#[]⟩] TIm)).cell? ⟨w.heap.size, 1, none⟩ = some (.int .u64 xv) := bk.cell 1; have r6_2 : (w6.alloc (.cells #[.int .i64 0, .int .u64 0, .string ⟨#[]⟩] TIm)).cell? ⟨w.heap.size, 2, none⟩ = some (.string xd) := bk.cell 2; have HN6 := Lib.hid bk; have B6 := Lib.hid (belowThen B5.out hb2); clear hb hb2 bk s5_0 s5_1 s5_2)
  go_wp2_with (go_at_call 6; refine (ka _).mono ?_; rintro x w7 ⟨rfl, hb⟩; have bk := HN6.out.below hb HN6.out.lt; have qw7_0 : w7.cell? ⟨w.heap.size, 0, none⟩ = some (.int .i64 xb) := bk.cell 0; have qw7_1 : w7.cell? ⟨w.heap.size, 1, none⟩ = some (.int .u64 xv) := bk.cell 1; have qw7_2 : w7.cell? ⟨w.heap.size, 2, none⟩ = some (.string xd) := bk.cell 2; have Bw7 := Lib.hid (belowThen B6.out hb); clear hb bk)
  exact end_ret (t := 8) (v := .bool true) (by kernel_rfl) rfl rfl ⟨rfl, Bw7.out⟩
set_option maxHeartbeats 8000000 in
theorem long0 (x : Im) (n : Int) (q : Int) (k : Nat) (c : UInt8) (y : UInt8) (m : Nat) (w : World) (hg : BK.Good x) (hn : n ≠ x.b) (hc : q % 256 = (c.toNat : Int)) (hc0 : (c.toNat : Int) ≠ 0) (hk : k % 128 = m) (hml : m < 128) (hy : (putT x).data.toList[m]? = some y) (hd : (putT x).data.toList[m]? ≠ some (y ^^^ c)) : Calls Try.prog 4 #[iagg x, .int .i64 n, .int .i64 (k : Int), .int .i64 q] w fun e w' => e = .returned (.bool true) ∧ Below w.heap.size w w' := by
  have kp := fun W => put_ok x hg W
  have kg := fun W => get_any x.b (putT x) W
  rw [get_put hg] at kg
  have kn := fun W => get_any n (putT x) W
  rw [get_other hg n hn] at kn
  have kb := fun W => get_any x.b (setT (putT x) m (y ^^^ c)) W
  rw [get_changed hg m hml _ hd x.b] at kb
  have lenx : (putT x).data.toList.length = 128 := (Array.length_toList).trans (putT_size hg.d)
  have hsz := putT_size hg.d
  have hd96 := hg.d
  obtain ⟨xb, xv, xd⟩ := x
  dsimp only at hd96
  obtain ⟨T, hT⟩ : ∃ T, putT ⟨xb, xv, xd⟩ = T := ⟨_, rfl⟩
  rw [hT] at kp kg hsz hy lenx kb kn
  unfold iagg at *
  dsimp only at kp kg kb kn hn ⊢
  have hs128 : (T.size : Int) = 128 := by omega
  have z0 : (xb == xb) = true := by simp
  have z1 : (xv == xv) = true := by simp
  have z2 : (xd.toList == xd.toList) = true := by simp
  have n0 : decide ((300 : Int) < (xd.size : Int)) = false := by simp; omega
  have m1 : (n == xb) = false := by simpa using hn
  have m1b : ¬ n = xb := hn
  have x2 := xor_u8 y c
  obtain ⟨dy, hdy⟩ : ∃ d, y ^^^ c = d := ⟨_, rfl⟩
  rw [hdy] at x2 kb
  have d1 : ((k : Int) % 128) = (m : Int) := by omega
  have n1 : decide ((k : Int) < 0) = false := by simp
  have n2 : ((c.toNat : Int) == 0) = false := by simpa using hc0
  have hd3 : (m : Int) < 128 := by omega
  have HY := Lib.hid hy
  have LX := Lib.hid lenx
  have HM := Lib.hid hml
  have ka := fun W => BK.alive_any W
  unfold BK.Quiet at ka
  have hbn := Blk.new w TIm #[.int .i64 xb, .int .u64 xv, .string xd]
  have hb0 := belowNew (belowSame w) (.cells #[.int .i64 xb, .int .u64 xv, .string xd] TIm)
  obtain ⟨W0, hW0⟩ : ∃ W0, w.alloc (.cells #[.int .i64 xb, .int .u64 xv, .string xd] TIm) = W0 := ⟨_, rfl⟩
  rw [hW0] at hbn hb0
  have c0 : W0.cell? ⟨w.heap.size, 0, none⟩ = some (.int .i64 xb) := hbn.cell 0
  have c1 : W0.cell? ⟨w.heap.size, 1, none⟩ = some (.int .u64 xv) := hbn.cell 1
  have c2 : W0.cell? ⟨w.heap.size, 2, none⟩ = some (.string xd) := hbn.cell 2
  have HBN := Lib.hid hbn
  have HB0 := Lib.hid hb0
  have HW0 := Lib.hid hW0
  clear hbn hb0 hW0
  have cv1 := fun W => Lib.run_convert_string_bytes (P := Try.prog) W 9 33 5 T Try.underlying9 Try.underlying33 Try.underlying5
  clear hg hsz hd96 hT hdy lenx hy hml hk hd hc0 hn
  go_enter Try.func4, Try.ntmps4
  go_upto_region 1 with fail
  rw [HW0.out]
  go_upto_region 7 with (first
    | (go_at_call 7; refine (kp _).mono ?_; rintro x w1 ⟨rfl, hb1⟩; have bk := HBN.out.below hb1 HBN.out.lt; have p1_0 : w1.cell? ⟨w.heap.size, 0, none⟩ = some (.int .i64 xb) := bk.cell 0; have p1_1 : w1.cell? ⟨w.heap.size, 1, none⟩ = some (.int .u64 xv) := bk.cell 1; have p1_2 : w1.cell? ⟨w.heap.size, 2, none⟩ = some (.string xd) := bk.cell 2; have HN1 := Lib.hid bk; have B1 := Lib.hid (belowThen HB0.out hb1); clear hb1 bk)
    | (go_at_call 9; refine (kg _).mono ?_; rintro x w2 ⟨rfl, hb⟩; have hb2 := belowNew hb (.cells #[.int .i64 xb, .int .u64 xv, .string xd] TIm); have bk := HN1.out.below hb2 HN1.out.lt; have r2_0 : (w2.alloc (.cells #[.int .i64 xb, .int .u64 xv, .string xd] TIm)).cell? ⟨w.heap.size, 0, none⟩ = some (.int .i64 xb) := bk.cell 0; have r2_1 : (w2.alloc (.cells #[.int .i64 xb, .int .u64 xv, .string xd] TIm)).cell? ⟨w.heap.size, 1, none⟩ = some (.int .u64 xv) := bk.cell 1; have r2_2 : (w2.alloc (.cells #[.int .i64 xb, .int .u64 xv, .string xd] TIm)).cell? ⟨w.heap.size, 2, none⟩ = some (.string xd) := bk.cell 2; have HN2 := Lib.hid bk; have B2 := Lib.hid (belowThen B1.out hb2); clear hb hb2 bk p1_0 p1_1 p1_2))
  go_upto_region 13 with (go_at_call 9; refine (kn _).mono ?_; rintro x w3 ⟨rfl, hb⟩; have hb2 := belowNew hb (.cells #[.int .i64 0, .int .u64 0, .string ⟨#[]⟩] TIm); have bk := HN2.out.below hb2 HN2.out.lt; have r3_0 : (w3.alloc (.cells #[.int .i64 0, .int .u64 0, .string ⟨#[]⟩] TIm)).cell? ⟨w.heap.size, 0, none⟩ = some (.int .i64 xb) := bk.cell 0; have r3_1 : (w3.alloc (.cells #[.int .i64 0, .int .u64 0, .string ⟨#[]⟩] TIm)).cell? ⟨w.heap.size, 1, none⟩ = some (.int .u64 xv) := bk.cell 1; have r3_2 : (w3.alloc (.cells #[.int .i64 0, .int .u64 0, .string ⟨#[]⟩] TIm)).cell? ⟨w.heap.size, 2, none⟩ = some (.string xd) := bk.cell 2; have HN3 := Lib.hid bk; have B3 := Lib.hid (belowThen B2.out hb2); clear hb hb2 bk r2_0 r2_1 r2_2)
  obtain ⟨WB, hWB⟩ : ∃ WB, w3.alloc (.cells #[.int .i64 0, .int .u64 0, .string ⟨#[]⟩] TIm) = WB := ⟨_, rfl⟩
  have B3b := B3.out
  have HN3b := HN3.out
  rw [hWB] at B3b HN3b ⊢
  have hsw : WB.heap.size = w3.heap.size + 1 := by rw [← hWB]; simp
  have b4 := below_bytes WB 5 T
  have k4 := cells_new WB 5 T
  have B4 := Lib.hid (belowThen B3b b4)
  have HN4 := Lib.hid (HN3b.below b4 HN3b.lt)
  have hg1 : w.heap.size + 1 ≤ w3.heap.size + 1 := by have h1 := HN3b.lt; omega
  generalize Lib.bytesWorld WB 5 T = w4 at b4 k4 B4 HN4 ⊢
  generalize grownCap WB T.size 0 5 = cap2
  rw [hsw] at k4
  obtain ⟨g2, hgg⟩ : ∃ g, w3.heap.size + 1 = g := ⟨_, rfl⟩
  rw [hgg] at hsw k4 hg1
  try rw [hsw]
  try rw [hgg]
  have e2 := (k4.2 m y HY.out).1
  have e2' := (k4.2 m y HY.out).2
  have KK := Lib.hid k4
  clear b4 hgg k4 cv1 hsw r3_0 r3_1 r3_2 B3b HN3b hWB
  go_upto_region 14 with fail
  have L2 := Lib.hid (KK.out.set_ m (by rw [LX.out]; exact HM.out) dy)
  have B5 := Lib.hid (show Below w.heap.size w (w4.setCell ⟨g2, m, none⟩ (.int .u8 (dy.toNat : Int))) from B4.out.setCell (by show w.heap.size ≤ g2; omega) _)
  have bk5 := HN4.out.far (p := ⟨g2, m, none⟩) (by show w.heap.size ≠ g2; omega) (.int .u8 (dy.toNat : Int))
  generalize w4.setCell ⟨g2, m, none⟩ (.int .u8 (dy.toNat : Int)) = W5 at L2 B5 bk5 ⊢
  have HN5 := Lib.hid bk5
  have s5_0 : W5.cell? ⟨w.heap.size, 0, none⟩ = some (.int .i64 xb) := bk5.cell 0
  have s5_1 : W5.cell? ⟨w.heap.size, 1, none⟩ = some (.int .u64 xv) := bk5.cell 1
  have s5_2 : W5.cell? ⟨w.heap.size, 2, none⟩ = some (.string xd) := bk5.cell 2
  have cvA := L2.out.str (P := Try.prog) 33 9 5 Try.underlying33 Try.underlying5 Try.underlying9 T.size cap2 (by rw [List.length_set, LX.out]; omega)
  rw [show (⟨(T.data.toList.set m dy).toArray⟩ : ByteArray) = setT T m dy from rfl] at cvA
  generalize setT T m dy = Y1 at cvA kb
  clear e2 e2' x2 KK B4 L2 bk5 hg1
  go_upto_region 15 with (go_at_call 9; refine (kb _).mono ?_; rintro x w6 ⟨rfl, hb⟩; have hb2 := belowNew hb (.cells #[.int .i64 0, .int .u64 0, .string ⟨#[]⟩] TIm); have bk := HN5.out.below hb2 HN5.out.lt; have r6_0 : (w6.alloc (.cells #[.int .i64 0, .int .u64 0, .string ⟨#[]⟩] TIm)).cell? ⟨w.heap.size, 0, none⟩ = some (.int .i64 xb) := bk.cell 0; have r6_1 : (w6.alloc (.cells #[.int .i64 0, .int .u64 0, .string ⟨#[]⟩] TIm)).cell? ⟨w.heap.size, 1, none⟩ = some (.int .u64 xv) := bk.cell 1; have r6_2 : (w6.alloc (.cells #[.int .i64 0, .int .u64 0, .string ⟨#[]⟩] TIm)).cell? ⟨w.heap.size, 2, none⟩ = some (.string xd) := bk.cell 2; have HN6 := Lib.hid bk; have B6 := Lib.hid (belowThen B5.out hb2); clear hb hb2 bk s5_0 s5_1 s5_2)
  go_wp2_with (go_at_call 6; refine (ka _).mono ?_; rintro x w7 ⟨rfl, hb⟩; have bk := HN6.out.below hb HN6.out.lt; have qw7_0 : w7.cell? ⟨w.heap.size, 0, none⟩ = some (.int .i64 xb) := bk.cell 0; have qw7_1 : w7.cell? ⟨w.heap.size, 1, none⟩ = some (.int .u64 xv) := bk.cell 1; have qw7_2 : w7.cell? ⟨w.heap.size, 2, none⟩ = some (.string xd) := bk.cell 2; have Bw7 := Lib.hid (belowThen B6.out hb); clear hb bk)
  exact end_ret (t := 8) (v := .bool true) (by kernel_rfl) rfl rfl ⟨rfl, Bw7.out⟩
theorem walk (x : Im) (n p q : Int) (w : World) (g0 : ImOk x) (g1 : (Lit.int .i64 n).wf = true) (g2 : (Lit.int .i64 p).wf = true) (g3 : (Lit.int .i64 q).wf = true) : Calls Try.prog 4 #[iagg x, .int .i64 n, .int .i64 p, .int .i64 q] w fun e w' => e = .returned (.bool true) ∧ Below w.heap.size w w' := by
  by_cases h3 : 300 < x.d.size
  · exact heavy x n p q w g0 h3
  cases hr : rightB x
  · exact bad x n p q w g0 (by omega) hr
  have hg := (right_iff g0).1 hr
  by_cases hp : p < 0
  · by_cases hn : n = x.b
    · subst hn; exact short01 x p q w hg hp
    · exact short00 x n p q w hg hn hp
  by_cases hq : q % 256 = 0
  · by_cases hn : n = x.b
    · subst hn; exact short11 x p q w hg (by omega) hq
    · exact short10 x n p q w hg hn (by omega) hq
  obtain ⟨k, rfl⟩ : ∃ k : Nat, p = (k : Int) := ⟨p.toNat, by omega⟩
  obtain ⟨c, hc⟩ : ∃ c : UInt8, q % 256 = (c.toNat : Int) := ⟨UInt8.ofNat (q % 256).toNat, by simp; omega⟩
  have hc0 : (c.toNat : Int) ≠ 0 := by rw [← hc]; exact hq
  have c0 : c ≠ 0 := fun e => hc0 (by rw [e]; rfl)
  have lenx : (putT x).data.toList.length = 128 := (Array.length_toList).trans (putT_size hg.d)
  obtain ⟨y, hy⟩ : ∃ y, (putT x).data.toList[k % 128]? = some y := ⟨_, List.getElem?_eq_getElem (by rw [lenx]; omega)⟩
  have hne : y ≠ y ^^^ c := fun e => c0 (by
    have := congrArg (y ^^^ ·) e
    simpa [← UInt8.xor_assoc] using this.symm)
  have hd : (putT x).data.toList[k % 128]? ≠ some (y ^^^ c) := by rw [hy]; intro e; exact hne (Option.some.inj e)
  by_cases hn : n = x.b
  · subst hn; exact long1 x q k c y (k % 128) w hg hc hc0 rfl (by omega) hy hd
  · exact long0 x n q k c y (k % 128) w hg hn hc hc0 rfl (by omega) hy hd
end Go.Proofs.Ytcbhdggjcelmaaa.blockBack
