/- SuperApart: the walk. No condition. -/
import Derived.Test.YtacogpogplionaaSupIn
namespace Go.Proofs.Ytacogpogplionaa.superApart
set_option maxRecDepth 100000
open Go.RowKit Go.Proofs.Ytacogpogplionaa.SU
set_option linter.unusedVariables false
set_option linter.unusedSimpArgs false

theorem dark (s : Sh) (a b x y : Int) (w : World) (hv : validB s = false) : Calls Try.prog 3 #[sagg s, .int .i64 a, .int .i64 b, .int .i64 x, .int .i64 y] w fun e w' => e = .returned (.bool true) ∧ Below w.heap.size w w' := by
  have ka := fun W => SU.alive_any W
  have kv := fun W => valid_any s W
  rw [hv] at kv
  have HBN := Lib.hid (Blk.new w TSh (scells s))
  have HB0 := Lib.hid (belowNew (belowSame w) (.cells (scells s) TSh))
  unfold sagg at *
  clear hv
  go_enter Try.func3, Try.ntmps3
  go_wp2_with (first
    | (go_at_call 5; refine (kv _).mono ?_; rintro z w1 ⟨rfl, hb1⟩; have bk := HBN.out.below hb1 HBN.out.lt; have p0 : w1.cell? ⟨w.heap.size, 0, none⟩ = some (.int .i64 s.n) := bk.cell 0; have p1 : w1.cell? ⟨w.heap.size, 1, none⟩ = some (.int .i64 s.b) := bk.cell 1; have p2 : w1.cell? ⟨w.heap.size, 2, none⟩ = some (.int .i64 s.l) := bk.cell 2; have p3 : w1.cell? ⟨w.heap.size, 3, none⟩ = some (.int .i64 s.c) := bk.cell 3; have p4 : w1.cell? ⟨w.heap.size, 4, none⟩ = some (.int .i64 s.e) := bk.cell 4; have HP1 := Lib.hid bk; have B1 := Lib.hid (belowThen HB0.out hb1); clear hb1 bk)
    | (go_at_call 6; refine (ka _).mono ?_; rintro z w2 ⟨rfl, hb2⟩; have B2 := Lib.hid (belowThen B1.out hb2); clear hb2))
  exact end_ret (t := 10) (v := .bool true) (by kernel_rfl) rfl rfl ⟨rfl, B2.out⟩
set_option maxHeartbeats 4000000 in
theorem outside (s : Sh) (a b x y : Int) (w : World) (hv : validB s = true) (hc : a < 1 ∨ b ≤ a ∨ s.n < b ∨ x < 0 ∨ y ≤ x ∨ s.b ≤ y) : Calls Try.prog 3 #[sagg s, .int .i64 a, .int .i64 b, .int .i64 x, .int .i64 y] w fun e w' => e = .returned (.bool true) ∧ Below w.heap.size w w' := by
  have ka := fun W => SU.alive_any W
  have kv := fun W => valid_any s W
  rw [hv] at kv
  have HBN := Lib.hid (Blk.new w TSh (scells s))
  have HB0 := Lib.hid (belowNew (belowSame w) (.cells (scells s) TSh))
  unfold sagg at *
  clear hv
  by_cases c0 : a < 1
  · have d0 : decide (a < 1) = true := by simpa using c0
    clear hc c0
    go_enter Try.func3, Try.ntmps3
    go_wp2_with (first
      | (go_at_call 5; refine (kv _).mono ?_; rintro z w1 ⟨rfl, hb1⟩; have bk := HBN.out.below hb1 HBN.out.lt; have p0 : w1.cell? ⟨w.heap.size, 0, none⟩ = some (.int .i64 s.n) := bk.cell 0; have p1 : w1.cell? ⟨w.heap.size, 1, none⟩ = some (.int .i64 s.b) := bk.cell 1; have p2 : w1.cell? ⟨w.heap.size, 2, none⟩ = some (.int .i64 s.l) := bk.cell 2; have p3 : w1.cell? ⟨w.heap.size, 3, none⟩ = some (.int .i64 s.c) := bk.cell 3; have p4 : w1.cell? ⟨w.heap.size, 4, none⟩ = some (.int .i64 s.e) := bk.cell 4; have HP1 := Lib.hid bk; have B1 := Lib.hid (belowThen HB0.out hb1); clear hb1 bk)
      | (go_at_call 6; refine (ka _).mono ?_; rintro z w2 ⟨rfl, hb2⟩; have B2 := Lib.hid (belowThen B1.out hb2); clear hb2))
    exact end_ret (t := 10) (v := .bool true) (by kernel_rfl) rfl rfl ⟨rfl, B2.out⟩
  have d0 : decide (a < 1) = false := by simpa using c0
  by_cases c1 : b ≤ a
  · have d1 : decide (b ≤ a) = true := by simpa using c1
    clear hc c1
    go_enter Try.func3, Try.ntmps3
    go_wp2_with (first
      | (go_at_call 5; refine (kv _).mono ?_; rintro z w1 ⟨rfl, hb1⟩; have bk := HBN.out.below hb1 HBN.out.lt; have p0 : w1.cell? ⟨w.heap.size, 0, none⟩ = some (.int .i64 s.n) := bk.cell 0; have p1 : w1.cell? ⟨w.heap.size, 1, none⟩ = some (.int .i64 s.b) := bk.cell 1; have p2 : w1.cell? ⟨w.heap.size, 2, none⟩ = some (.int .i64 s.l) := bk.cell 2; have p3 : w1.cell? ⟨w.heap.size, 3, none⟩ = some (.int .i64 s.c) := bk.cell 3; have p4 : w1.cell? ⟨w.heap.size, 4, none⟩ = some (.int .i64 s.e) := bk.cell 4; have HP1 := Lib.hid bk; have B1 := Lib.hid (belowThen HB0.out hb1); clear hb1 bk)
      | (go_at_call 6; refine (ka _).mono ?_; rintro z w2 ⟨rfl, hb2⟩; have B2 := Lib.hid (belowThen B1.out hb2); clear hb2))
    exact end_ret (t := 10) (v := .bool true) (by kernel_rfl) rfl rfl ⟨rfl, B2.out⟩
  have d1 : decide (b ≤ a) = false := by simpa using c1
  by_cases c2 : s.n < b
  · have d2 : decide (s.n < b) = true := by simpa using c2
    clear hc c2
    go_enter Try.func3, Try.ntmps3
    go_wp2_with (first
      | (go_at_call 5; refine (kv _).mono ?_; rintro z w1 ⟨rfl, hb1⟩; have bk := HBN.out.below hb1 HBN.out.lt; have p0 : w1.cell? ⟨w.heap.size, 0, none⟩ = some (.int .i64 s.n) := bk.cell 0; have p1 : w1.cell? ⟨w.heap.size, 1, none⟩ = some (.int .i64 s.b) := bk.cell 1; have p2 : w1.cell? ⟨w.heap.size, 2, none⟩ = some (.int .i64 s.l) := bk.cell 2; have p3 : w1.cell? ⟨w.heap.size, 3, none⟩ = some (.int .i64 s.c) := bk.cell 3; have p4 : w1.cell? ⟨w.heap.size, 4, none⟩ = some (.int .i64 s.e) := bk.cell 4; have HP1 := Lib.hid bk; have B1 := Lib.hid (belowThen HB0.out hb1); clear hb1 bk)
      | (go_at_call 6; refine (ka _).mono ?_; rintro z w2 ⟨rfl, hb2⟩; have B2 := Lib.hid (belowThen B1.out hb2); clear hb2))
    exact end_ret (t := 10) (v := .bool true) (by kernel_rfl) rfl rfl ⟨rfl, B2.out⟩
  have d2 : decide (s.n < b) = false := by simpa using c2
  by_cases c3 : x < 0
  · have d3 : decide (x < 0) = true := by simpa using c3
    clear hc c3
    go_enter Try.func3, Try.ntmps3
    go_wp2_with (first
      | (go_at_call 5; refine (kv _).mono ?_; rintro z w1 ⟨rfl, hb1⟩; have bk := HBN.out.below hb1 HBN.out.lt; have p0 : w1.cell? ⟨w.heap.size, 0, none⟩ = some (.int .i64 s.n) := bk.cell 0; have p1 : w1.cell? ⟨w.heap.size, 1, none⟩ = some (.int .i64 s.b) := bk.cell 1; have p2 : w1.cell? ⟨w.heap.size, 2, none⟩ = some (.int .i64 s.l) := bk.cell 2; have p3 : w1.cell? ⟨w.heap.size, 3, none⟩ = some (.int .i64 s.c) := bk.cell 3; have p4 : w1.cell? ⟨w.heap.size, 4, none⟩ = some (.int .i64 s.e) := bk.cell 4; have HP1 := Lib.hid bk; have B1 := Lib.hid (belowThen HB0.out hb1); clear hb1 bk)
      | (go_at_call 6; refine (ka _).mono ?_; rintro z w2 ⟨rfl, hb2⟩; have B2 := Lib.hid (belowThen B1.out hb2); clear hb2))
    exact end_ret (t := 10) (v := .bool true) (by kernel_rfl) rfl rfl ⟨rfl, B2.out⟩
  have d3 : decide (x < 0) = false := by simpa using c3
  by_cases c4 : y ≤ x
  · have d4 : decide (y ≤ x) = true := by simpa using c4
    clear hc c4
    go_enter Try.func3, Try.ntmps3
    go_wp2_with (first
      | (go_at_call 5; refine (kv _).mono ?_; rintro z w1 ⟨rfl, hb1⟩; have bk := HBN.out.below hb1 HBN.out.lt; have p0 : w1.cell? ⟨w.heap.size, 0, none⟩ = some (.int .i64 s.n) := bk.cell 0; have p1 : w1.cell? ⟨w.heap.size, 1, none⟩ = some (.int .i64 s.b) := bk.cell 1; have p2 : w1.cell? ⟨w.heap.size, 2, none⟩ = some (.int .i64 s.l) := bk.cell 2; have p3 : w1.cell? ⟨w.heap.size, 3, none⟩ = some (.int .i64 s.c) := bk.cell 3; have p4 : w1.cell? ⟨w.heap.size, 4, none⟩ = some (.int .i64 s.e) := bk.cell 4; have HP1 := Lib.hid bk; have B1 := Lib.hid (belowThen HB0.out hb1); clear hb1 bk)
      | (go_at_call 6; refine (ka _).mono ?_; rintro z w2 ⟨rfl, hb2⟩; have B2 := Lib.hid (belowThen B1.out hb2); clear hb2))
    exact end_ret (t := 10) (v := .bool true) (by kernel_rfl) rfl rfl ⟨rfl, B2.out⟩
  have d4 : decide (y ≤ x) = false := by simpa using c4
  have d5 : decide (s.b ≤ y) = true := by simp; omega
  clear hc
  go_enter Try.func3, Try.ntmps3
  go_wp2_with (first
    | (go_at_call 5; refine (kv _).mono ?_; rintro z w1 ⟨rfl, hb1⟩; have bk := HBN.out.below hb1 HBN.out.lt; have p0 : w1.cell? ⟨w.heap.size, 0, none⟩ = some (.int .i64 s.n) := bk.cell 0; have p1 : w1.cell? ⟨w.heap.size, 1, none⟩ = some (.int .i64 s.b) := bk.cell 1; have p2 : w1.cell? ⟨w.heap.size, 2, none⟩ = some (.int .i64 s.l) := bk.cell 2; have p3 : w1.cell? ⟨w.heap.size, 3, none⟩ = some (.int .i64 s.c) := bk.cell 3; have p4 : w1.cell? ⟨w.heap.size, 4, none⟩ = some (.int .i64 s.e) := bk.cell 4; have HP1 := Lib.hid bk; have B1 := Lib.hid (belowThen HB0.out hb1); clear hb1 bk)
    | (go_at_call 6; refine (ka _).mono ?_; rintro z w2 ⟨rfl, hb2⟩; have B2 := Lib.hid (belowThen B1.out hb2); clear hb2))
  exact end_ret (t := 10) (v := .bool true) (by kernel_rfl) rfl rfl ⟨rfl, B2.out⟩
set_option maxHeartbeats 8000000 in
theorem main (s : Sh) (a b x y : Int) (w : World) (hg : SU.Good s) (ha : 1 ≤ a ∧ a < b ∧ b ≤ s.n) (hx : 0 ≤ x ∧ x < y ∧ y < s.b) : Calls Try.prog 3 #[sagg s, .int .i64 a, .int .i64 b, .int .i64 x, .int .i64 y] w fun e w' => e = .returned (.bool true) ∧ Below w.heap.size w w' := by
  have hv := (valid_iff s).2 hg
  have ka := fun W => SU.alive_any W
  have kv := fun W => valid_any s W
  rw [hv] at kv
  have HBN := Lib.hid (Blk.new w TSh (scells s))
  have HB0 := Lib.hid (belowNew (belowSame w) (.cells (scells s) TSh))
  unfold sagg at *
  have k1 := fun W => log_ok s hg a (by omega) W
  have k2 := fun W => log_ok s hg b (by omega) W
  have k3 := fun W => block_ok s hg x (by omega) W
  have k4 := fun W => block_ok s hg y (by omega) W
  have k5 := fun W => size_ok s hg W
  have hn := hg.n
  have hl := hg.l
  have hb := hg.b
  have hm := mul_le s.n s.l hn hl
  have q1 : 0 ≤ (a - 1) * s.l := Int.mul_nonneg (by omega) (by omega)
  have q2 : 0 ≤ (b - 1 - a) * s.l := Int.mul_nonneg (by omega) (by omega)
  have q3 : 0 ≤ (s.n - b) * s.l := Int.mul_nonneg (by omega) (by omega)
  have q4 : (b - 1 - a) * s.l = (b - 1) * s.l - (a - 1) * s.l - s.l := by rw [Int.sub_mul (b - 1), Int.sub_mul a]; omega
  have q5 : (s.n - b) * s.l = s.n * s.l - (b - 1) * s.l - s.l := by rw [Int.sub_mul, Int.sub_mul]; omega
  unfold sagg logI blockI sizeI at *
  obtain ⟨P, hP⟩ : ∃ P, (a - 1) * s.l = P := ⟨_, rfl⟩
  obtain ⟨Q, hQ⟩ : ∃ Q, (b - 1) * s.l = Q := ⟨_, rfl⟩
  obtain ⟨R, hR⟩ : ∃ R, s.n * s.l = R := ⟨_, rfl⟩
  rw [hP] at q1 q4 k1
  rw [hQ] at q4 q5 k2
  rw [hR] at hm q5 k3 k4 k5
  obtain ⟨I, hI⟩ : ∃ I, 1 + P = I := ⟨_, rfl⟩
  obtain ⟨J, hJ⟩ : ∃ J, 1 + Q = J := ⟨_, rfl⟩
  obtain ⟨K, hK⟩ : ∃ K, 1 + R + 2 * x = K := ⟨_, rfl⟩
  obtain ⟨M, hM⟩ : ∃ M, 1 + R + 2 * y = M := ⟨_, rfl⟩
  obtain ⟨Z, hZ⟩ : ∃ Z, 1 + R + 2 * s.b = Z := ⟨_, rfl⟩
  rw [hI] at k1
  rw [hJ] at k2
  rw [hK] at k3
  rw [hM] at k4
  rw [hZ] at k5
  have d0 : decide (a < 1) = false := by simp; omega
  have d1 : decide (b ≤ a) = false := by simp; omega
  have d2 : decide (s.n < b) = false := by simp; omega
  have d3 : decide (x < 0) = false := by simp; omega
  have d4 : decide (y ≤ x) = false := by simp; omega
  have d5 : decide (s.b ≤ y) = false := by simp; omega
  have g1 : decide (1 ≤ I) = true := by simp; omega
  have u1 : IntKind.i64.wrap (I + s.l) = I + s.l := IntWalk.i64_in _ (by omega)
  have u2 : IntKind.i64.wrap (J + s.l) = J + s.l := IntWalk.i64_in _ (by omega)
  have u3 : IntKind.i64.wrap (K + 2) = K + 2 := IntWalk.i64_in _ (by omega)
  have u4 : IntKind.i64.wrap (M + 2) = M + 2 := IntWalk.i64_in _ (by omega)
  have g2 : decide (I + s.l ≤ J) = true := by simp; omega
  have g3 : decide (J + s.l ≤ K) = true := by simp; omega
  have g4 : decide (K + 2 ≤ M) = true := by simp; omega
  have g5 : decide (M + 2 ≤ Z) = true := by simp; omega
  clear hv hn hl hb hm q1 q2 q3 q4 q5 hP hQ hR hI hJ hK hM hZ hg ha hx
  go_enter Try.func3, Try.ntmps3
  go_upto_region 4 with (go_at_call 5; refine (kv _).mono ?_; rintro z w1 ⟨rfl, hb1⟩; have bk := HBN.out.below hb1 HBN.out.lt; have p0 : w1.cell? ⟨w.heap.size, 0, none⟩ = some (.int .i64 s.n) := bk.cell 0; have p1 : w1.cell? ⟨w.heap.size, 1, none⟩ = some (.int .i64 s.b) := bk.cell 1; have p2 : w1.cell? ⟨w.heap.size, 2, none⟩ = some (.int .i64 s.l) := bk.cell 2; have p3 : w1.cell? ⟨w.heap.size, 3, none⟩ = some (.int .i64 s.c) := bk.cell 3; have p4 : w1.cell? ⟨w.heap.size, 4, none⟩ = some (.int .i64 s.e) := bk.cell 4; have HP1 := Lib.hid bk; have B1 := Lib.hid (belowThen HB0.out hb1); clear hb1 bk)
  obtain ⟨xl, hxl⟩ : ∃ x, w1.heap.size = x := ⟨_, rfl⟩
  have hbl := Blk.new w1 TLa (scells s)
  have hbn := HP1.out.below (belowNew (belowSame w1) (.cells (scells s) TLa)) HP1.out.lt
  have hb2 := belowNew B1.out (.cells (scells s) TLa)
  obtain ⟨W2, hW2⟩ : ∃ W2, w1.alloc (.cells (scells s) TLa) = W2 := ⟨_, rfl⟩
  rw [show w1.alloc (.cells #[.int .i64 s.n, .int .i64 s.b, .int .i64 s.l, .int .i64 s.c, .int .i64 s.e] TLa) = W2 from hW2]
  rw [hW2] at hbl hb2 hbn
  rw [hxl] at hbl ⊢
  have c0 : W2.cell? ⟨xl, 0, none⟩ = some (.int .i64 s.n) := hbl.cell 0
  have c1 : W2.cell? ⟨xl, 1, none⟩ = some (.int .i64 s.b) := hbl.cell 1
  have c2 : W2.cell? ⟨xl, 2, none⟩ = some (.int .i64 s.l) := hbl.cell 2
  have c3 : W2.cell? ⟨xl, 3, none⟩ = some (.int .i64 s.c) := hbl.cell 3
  have c4 : W2.cell? ⟨xl, 4, none⟩ = some (.int .i64 s.e) := hbl.cell 4
  have LW2 := Lib.hid hbl
  have BW2 := Lib.hid hb2
  have SW2 := Lib.hid hbn
  clear hbl hb2 hbn hW2 hxl p0 p1 p2 p3 p4
  go_upto_region 5 with (go_at_call 7; refine (k1 _).mono ?_; rintro z w3 ⟨rfl, hb⟩; have bk := LW2.out.below hb LW2.out.lt; have e0 : w3.cell? ⟨xl, 0, none⟩ = some (.int .i64 s.n) := bk.cell 0; have e1 : w3.cell? ⟨xl, 1, none⟩ = some (.int .i64 s.b) := bk.cell 1; have e2 : w3.cell? ⟨xl, 2, none⟩ = some (.int .i64 s.l) := bk.cell 2; have e3 : w3.cell? ⟨xl, 3, none⟩ = some (.int .i64 s.c) := bk.cell 3; have e4 : w3.cell? ⟨xl, 4, none⟩ = some (.int .i64 s.e) := bk.cell 4; have Lw3 := Lib.hid bk; have Sw3 := Lib.hid (SW2.out.below hb SW2.out.lt); have Bw3 := Lib.hid (belowThen BW2.out hb); clear hb bk c0 c1 c2 c3 c4)
  go_upto_region 6 with (go_at_call 7; refine (k2 _).mono ?_; rintro z w4 ⟨rfl, hb⟩; have bk := Lw3.out.below hb Lw3.out.lt; have f0 : w4.cell? ⟨xl, 0, none⟩ = some (.int .i64 s.n) := bk.cell 0; have f1 : w4.cell? ⟨xl, 1, none⟩ = some (.int .i64 s.b) := bk.cell 1; have f2 : w4.cell? ⟨xl, 2, none⟩ = some (.int .i64 s.l) := bk.cell 2; have f3 : w4.cell? ⟨xl, 3, none⟩ = some (.int .i64 s.c) := bk.cell 3; have f4 : w4.cell? ⟨xl, 4, none⟩ = some (.int .i64 s.e) := bk.cell 4; have Lw4 := Lib.hid bk; have Sw4 := Lib.hid (Sw3.out.below hb Sw3.out.lt); have Bw4 := Lib.hid (belowThen Bw3.out hb); clear hb bk e0 e1 e2 e3 e4)
  go_upto_region 7 with (go_at_call 8; refine (k3 _).mono ?_; rintro z w5 ⟨rfl, hb⟩; have bk := Lw4.out.below hb Lw4.out.lt; have h0 : w5.cell? ⟨xl, 0, none⟩ = some (.int .i64 s.n) := bk.cell 0; have h1 : w5.cell? ⟨xl, 1, none⟩ = some (.int .i64 s.b) := bk.cell 1; have h2 : w5.cell? ⟨xl, 2, none⟩ = some (.int .i64 s.l) := bk.cell 2; have h3 : w5.cell? ⟨xl, 3, none⟩ = some (.int .i64 s.c) := bk.cell 3; have h4 : w5.cell? ⟨xl, 4, none⟩ = some (.int .i64 s.e) := bk.cell 4; have Lw5 := Lib.hid bk; have Sw5 := Lib.hid (Sw4.out.below hb Sw4.out.lt); have Bw5 := Lib.hid (belowThen Bw4.out hb); clear hb bk f0 f1 f2 f3 f4)
  go_upto_region 8 with (go_at_call 8; refine (k4 _).mono ?_; rintro z w6 ⟨rfl, hb⟩; have bk := Lw5.out.below hb Lw5.out.lt; have m0 : w6.cell? ⟨xl, 0, none⟩ = some (.int .i64 s.n) := bk.cell 0; have m1 : w6.cell? ⟨xl, 1, none⟩ = some (.int .i64 s.b) := bk.cell 1; have m2 : w6.cell? ⟨xl, 2, none⟩ = some (.int .i64 s.l) := bk.cell 2; have m3 : w6.cell? ⟨xl, 3, none⟩ = some (.int .i64 s.c) := bk.cell 3; have m4 : w6.cell? ⟨xl, 4, none⟩ = some (.int .i64 s.e) := bk.cell 4; have Lw6 := Lib.hid bk; have Sw6 := Lib.hid (Sw5.out.below hb Sw5.out.lt); have Bw6 := Lib.hid (belowThen Bw5.out hb); clear hb bk h0 h1 h2 h3 h4)
  clear m0 m1 m2 m3 m4
  go_wp2_with (first
    | (go_at_call 6; refine (ka _).mono ?_; rintro z w7 ⟨rfl, hb⟩; have bk := Sw6.out.below hb Sw6.out.lt; have r0 : w7.cell? ⟨w.heap.size, 0, none⟩ = some (.int .i64 s.n) := bk.cell 0; have r1 : w7.cell? ⟨w.heap.size, 1, none⟩ = some (.int .i64 s.b) := bk.cell 1; have r2 : w7.cell? ⟨w.heap.size, 2, none⟩ = some (.int .i64 s.l) := bk.cell 2; have r3 : w7.cell? ⟨w.heap.size, 3, none⟩ = some (.int .i64 s.c) := bk.cell 3; have r4 : w7.cell? ⟨w.heap.size, 4, none⟩ = some (.int .i64 s.e) := bk.cell 4; have B7 := Lib.hid (belowThen Bw6.out hb); clear hb bk)
    | (go_at_call 9; refine (k5 _).mono ?_; rintro z w8 ⟨rfl, hb⟩; have B8 := Lib.hid (belowThen B7.out hb); clear hb))
  exact end_ret (t := 10) (v := .bool true) (by kernel_rfl) rfl rfl ⟨rfl, B8.out⟩
theorem walk (s : Sh) (a b x y : Int) (w : World) (g0 : ShOk s) (g1 : (Lit.int .i64 a).wf = true) (g2 : (Lit.int .i64 b).wf = true) (g3 : (Lit.int .i64 x).wf = true) (g4 : (Lit.int .i64 y).wf = true) : Calls Try.prog 3 #[sagg s, .int .i64 a, .int .i64 b, .int .i64 x, .int .i64 y] w fun e w' => e = .returned (.bool true) ∧ Below w.heap.size w w' := by
  cases hv : validB s
  · exact dark s a b x y w hv
  · by_cases hc : a < 1 ∨ b ≤ a ∨ s.n < b ∨ x < 0 ∨ y ≤ x ∨ s.b ≤ y
    · exact outside s a b x y w hv hc
    · exact main s a b x y w ((valid_iff s).1 hv) (by omega) (by omega)
end Go.Proofs.Ytacogpogplionaa.superApart
