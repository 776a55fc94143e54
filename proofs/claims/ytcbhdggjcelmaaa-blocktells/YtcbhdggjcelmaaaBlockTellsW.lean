/- BlockTells: the walk. No condition. -/
import Derived.Test.YtcbhdggjcelmaaaM3
import Derived.Laws.StructEq
namespace Go.Proofs.Ytcbhdggjcelmaaa.blockTells
set_option maxRecDepth 100000
open Go.RowKit Go.Proofs.Ytcbhdggjcelmaaa.BK Go.Proofs.Ytcbhdggjcelmaaa.SM
set_option linter.unusedVariables false
set_option linter.unusedSimpArgs false

theorem outside (ib iv : Int) (id : ByteArray) (n : Int) (b : ByteArray) (w : World) (h1 : id.size ≤ 9223372036854775807) (h2 : b.size ≤ 9223372036854775807) (hc : 300 < id.size ∨ 300 < b.size) : Calls Try.prog 3 #[.agg #[.int .i64 ib, .int .u64 iv, .string id], .int .i64 n, .string b] w fun e w' => e = .returned (.bool true) ∧ Below w.heap.size w w' := by
  have ka := fun W => BK.alive_any W
  unfold BK.Quiet at ka
  have hbn := Blk.new w TIm #[.int .i64 ib, .int .u64 iv, .string id]
  have hb0 := belowNew (belowSame w) (.cells #[.int .i64 ib, .int .u64 iv, .string id] TIm)
  obtain ⟨W0, hW0⟩ : ∃ W0, w.alloc (.cells #[.int .i64 ib, .int .u64 iv, .string id] TIm) = W0 := ⟨_, rfl⟩
  rw [hW0] at hbn hb0
  obtain ⟨xi, hxi⟩ : ∃ i, w.heap.size = i := ⟨_, rfl⟩
  rw [hxi] at hbn
  have i0_0 : W0.cell? ⟨xi, 0, none⟩ = some (.int .i64 ib) := hbn.cell 0
  have i0_1 : W0.cell? ⟨xi, 1, none⟩ = some (.int .u64 iv) := hbn.cell 1
  have i0_2 : W0.cell? ⟨xi, 2, none⟩ = some (.string id) := hbn.cell 2
  have HBN := Lib.hid hbn
  have HB0 := Lib.hid hb0
  have HW0 := Lib.hid hW0
  have HXI := Lib.hid hxi
  clear hbn hb0 hW0 hxi
  by_cases q : 300 < id.size
  · have n1 : decide ((300 : Int) < (id.size : Int)) = true := by simp; omega
    clear hc q
    go_enter Try.func3, Try.ntmps3
    go_upto_region 1 with fail
    rw [HW0.out]
    try rw [HXI.out]
    go_wp2_with (go_at_call 6; refine (ka _).mono ?_; rintro x w2 ⟨rfl, hb⟩; have B2 := Lib.hid (belowThen HB0.out hb); clear hb)
    exact end_ret (t := 6) (v := .bool true) (by kernel_rfl) rfl rfl ⟨rfl, B2.out⟩
  have n1 : decide ((300 : Int) < (id.size : Int)) = false := by simp; omega
  have n2 : decide ((300 : Int) < (b.size : Int)) = true := by simp; omega
  clear hc q
  go_enter Try.func3, Try.ntmps3
  go_upto_region 1 with fail
  rw [HW0.out]
  try rw [HXI.out]
  go_wp2_with (go_at_call 6; refine (ka _).mono ?_; rintro x w2 ⟨rfl, hb⟩; have B2 := Lib.hid (belowThen HB0.out hb); clear hb)
  exact end_ret (t := 6) (v := .bool true) (by kernel_rfl) rfl rfl ⟨rfl, B2.out⟩
set_option maxHeartbeats 8000000 in
theorem core (ib iv : Int) (id : ByteArray) (n : Int) (b : ByteArray) (w : World) (h1 : id.size ≤ 300) (h2 : b.size ≤ 300) (S U xd zd : ByteArray) (se ue xb xv xe zb zv ze : Int)
    (kp : ∀ W, Calls Try.prog 7 #[.agg #[.int .i64 ib, .int .u64 iv, .string id]] W fun e w' => e = .returned (.tuple #[.string S, .int .i64 se]) ∧ Below W.heap.size W w')
    (kq : ∀ W, Calls Try.prog 8 #[.agg #[.int .i64 ib, .int .u64 iv, .string id]] W fun e w' => e = .returned (.tuple #[.string S, .int .i64 se]) ∧ Below W.heap.size W w')
    (kg : ∀ W, Calls Try.prog 9 #[.int .i64 n, .string b] W fun e w' => e = .returned (.tuple #[.agg #[.int .i64 xb, .int .u64 xv, .string xd], .int .i64 xe]) ∧ Below W.heap.size W w')
    (kh : ∀ W, Calls Try.prog 10 #[.int .i64 n, .string b] W fun e w' => e = .returned (.tuple #[.agg #[.int .i64 xb, .int .u64 xv, .string xd], .int .i64 xe]) ∧ Below W.heap.size W w')
    (kd : ∀ W, Calls Try.prog 11 #[.string b] W fun e w' => e = .returned (.tuple #[.string U, .int .i64 ue]) ∧ Below W.heap.size W w')
    (ke : ∀ W, Calls Try.prog 12 #[.string b] W fun e w' => e = .returned (.tuple #[.string U, .int .i64 ue]) ∧ Below W.heap.size W w')
    (ki : ∀ W, Calls Try.prog 9 #[.int .i64 n, .string S] W fun e w' => e = .returned (.tuple #[.agg #[.int .i64 zb, .int .u64 zv, .string zd], .int .i64 ze]) ∧ Below W.heap.size W w')
    (kj : ∀ W, Calls Try.prog 10 #[.int .i64 n, .string S] W fun e w' => e = .returned (.tuple #[.agg #[.int .i64 zb, .int .u64 zv, .string zd], .int .i64 ze]) ∧ Below W.heap.size W w')
    : Calls Try.prog 3 #[.agg #[.int .i64 ib, .int .u64 iv, .string id], .int .i64 n, .string b] w fun e w' => e = .returned (.bool true) ∧ Below w.heap.size w w' := by
  have n1 : decide ((300 : Int) < (id.size : Int)) = false := by simp; omega
  have n2 : decide ((300 : Int) < (b.size : Int)) = false := by simp; omega
  have ka := fun W => BK.alive_any W
  unfold BK.Quiet at ka
  have hbn := Blk.new w TIm #[.int .i64 ib, .int .u64 iv, .string id]
  have hb0 := belowNew (belowSame w) (.cells #[.int .i64 ib, .int .u64 iv, .string id] TIm)
  obtain ⟨W0, hW0⟩ : ∃ W0, w.alloc (.cells #[.int .i64 ib, .int .u64 iv, .string id] TIm) = W0 := ⟨_, rfl⟩
  rw [hW0] at hbn hb0
  obtain ⟨xi, hxi⟩ : ∃ i, w.heap.size = i := ⟨_, rfl⟩
  rw [hxi] at hbn
  have i0_0 : W0.cell? ⟨xi, 0, none⟩ = some (.int .i64 ib) := hbn.cell 0
  have i0_1 : W0.cell? ⟨xi, 1, none⟩ = some (.int .u64 iv) := hbn.cell 1
  have i0_2 : W0.cell? ⟨xi, 2, none⟩ = some (.string id) := hbn.cell 2
  have HBN := Lib.hid hbn
  have HB0 := Lib.hid hb0
  have HW0 := Lib.hid hW0
  have HXI := Lib.hid hxi
  clear hbn hb0 hW0 hxi
  clear h1 h2
  have es0 : (S.toList == S.toList) = true := by simp
  have es1 : (U.toList == U.toList) = true := by simp
  have ed0 : (xd.toList == xd.toList) = true := by simp
  have ed1 : (zd.toList == zd.toList) = true := by simp
  have ei0 : (se == se) = true := by simp
  have ei1 : (ue == ue) = true := by simp
  have ei2 : (xb == xb) = true := by simp
  have ei3 : (xv == xv) = true := by simp
  have ei4 : (xe == xe) = true := by simp
  have ei5 : (zb == zb) = true := by simp
  have ei6 : (zv == zv) = true := by simp
  have ei7 : (ze == ze) = true := by simp
  go_enter Try.func3, Try.ntmps3
  go_upto_region 1 with fail
  rw [HW0.out]
  try rw [HXI.out]
  go_upto_region 5 with (first
    | (go_at_call 7; refine (kp _).mono ?_; rintro x w1 ⟨rfl, hb⟩; have bk := HBN.out.below hb HBN.out.lt; have i1_0 : w1.cell? ⟨xi, 0, none⟩ = some (.int .i64 ib) := bk.cell 0; have i1_1 : w1.cell? ⟨xi, 1, none⟩ = some (.int .u64 iv) := bk.cell 1; have i1_2 : w1.cell? ⟨xi, 2, none⟩ = some (.string id) := bk.cell 2; have HN1 := Lib.hid bk; have B1 := Lib.hid (belowThen HB0.out hb); clear hb bk i0_0 i0_1 i0_2)
    | (go_at_call 8; refine (kq _).mono ?_; rintro x w2 ⟨rfl, hb⟩; have B2 := Lib.hid (belowThen B1.out hb); clear hb i1_0 i1_1 i1_2))
  go_upto_region 6 with (go_at_call 9; refine (kg _).mono ?_; rintro x w3 ⟨rfl, hb⟩; have B3 := Lib.hid (belowThen B2.out hb); clear hb)
  have hk := Blk.new w3 TIm #[.int .i64 xb, .int .u64 xv, .string xd]
  have hbw := belowNew (belowSame w3) (.cells #[.int .i64 xb, .int .u64 xv, .string xd] TIm)
  obtain ⟨w4, hW⟩ : ∃ W, w3.alloc (.cells #[.int .i64 xb, .int .u64 xv, .string xd] TIm) = W := ⟨_, rfl⟩
  rw [hW] at hk hbw ⊢
  obtain ⟨gba, hx⟩ : ∃ x, w3.heap.size = x := ⟨_, rfl⟩
  have B4 := Lib.hid (belowThen B3.out hbw)
  rw [hx] at hk ⊢
  have Kaw4 := Lib.hid hk
  clear hk hbw hW hx
  go_upto_region 7 with (go_at_call 10; refine (kh _).mono ?_; rintro x w5 ⟨rfl, hb⟩; have Kaw5 := Lib.hid (Kaw4.out.below hb Kaw4.out.lt); have B5 := Lib.hid (belowThen B4.out hb); clear hb)
  have hk := Blk.new w5 TIm #[.int .i64 xb, .int .u64 xv, .string xd]
  have hbw := belowNew (belowSame w5) (.cells #[.int .i64 xb, .int .u64 xv, .string xd] TIm)
  obtain ⟨w6, hW⟩ : ∃ W, w5.alloc (.cells #[.int .i64 xb, .int .u64 xv, .string xd] TIm) = W := ⟨_, rfl⟩
  rw [hW] at hk hbw ⊢
  obtain ⟨gbb, hx⟩ : ∃ x, w5.heap.size = x := ⟨_, rfl⟩
  have B6 := Lib.hid (belowThen B5.out hbw)
  have Kaw6 := Lib.hid (Kaw5.out.below hbw Kaw5.out.lt)
  rw [hx] at hk ⊢
  have Kbw6 := Lib.hid hk
  clear hk hbw hW hx
  go_upto_region 9 with (first
    | (go_at_call 11; refine (kd _).mono ?_; rintro x w7 ⟨rfl, hb⟩; have Kaw7 := Lib.hid (Kaw6.out.below hb Kaw6.out.lt); have Kbw7 := Lib.hid (Kbw6.out.below hb Kbw6.out.lt); have B7 := Lib.hid (belowThen B6.out hb); clear hb)
    | (go_at_call 12; refine (ke _).mono ?_; rintro x w8 ⟨rfl, hb⟩; have Kaw8 := Lib.hid (Kaw7.out.below hb Kaw7.out.lt); have Kbw8 := Lib.hid (Kbw7.out.below hb Kbw7.out.lt); have B8 := Lib.hid (belowThen B7.out hb); clear hb))
  go_upto_region 10 with (go_at_call 9; refine (ki _).mono ?_; rintro x w9 ⟨rfl, hb⟩; have Kaw9 := Lib.hid (Kaw8.out.below hb Kaw8.out.lt); have Kbw9 := Lib.hid (Kbw8.out.below hb Kbw8.out.lt); have B9 := Lib.hid (belowThen B8.out hb); clear hb)
  have hk := Blk.new w9 TIm #[.int .i64 zb, .int .u64 zv, .string zd]
  have hbw := belowNew (belowSame w9) (.cells #[.int .i64 zb, .int .u64 zv, .string zd] TIm)
  obtain ⟨w10, hW⟩ : ∃ W, w9.alloc (.cells #[.int .i64 zb, .int .u64 zv, .string zd] TIm) = W := ⟨_, rfl⟩
  rw [hW] at hk hbw ⊢
  obtain ⟨gbc, hx⟩ : ∃ x, w9.heap.size = x := ⟨_, rfl⟩
  have B10 := Lib.hid (belowThen B9.out hbw)
  have Kaw10 := Lib.hid (Kaw9.out.below hbw Kaw9.out.lt)
  have Kbw10 := Lib.hid (Kbw9.out.below hbw Kbw9.out.lt)
  rw [hx] at hk ⊢
  have Kcw10 := Lib.hid hk
  clear hk hbw hW hx
  go_upto_region 11 with (go_at_call 10; refine (kj _).mono ?_; rintro x w11 ⟨rfl, hb⟩; have Kaw11 := Lib.hid (Kaw10.out.below hb Kaw10.out.lt); have Kbw11 := Lib.hid (Kbw10.out.below hb Kbw10.out.lt); have Kcw11 := Lib.hid (Kcw10.out.below hb Kcw10.out.lt); have B11 := Lib.hid (belowThen B10.out hb); clear hb)
  have hk := Blk.new w11 TIm #[.int .i64 zb, .int .u64 zv, .string zd]
  have hbw := belowNew (belowSame w11) (.cells #[.int .i64 zb, .int .u64 zv, .string zd] TIm)
  obtain ⟨w12, hW⟩ : ∃ W, w11.alloc (.cells #[.int .i64 zb, .int .u64 zv, .string zd] TIm) = W := ⟨_, rfl⟩
  rw [hW] at hk hbw ⊢
  obtain ⟨gbd, hx⟩ : ∃ x, w11.heap.size = x := ⟨_, rfl⟩
  have B12 := Lib.hid (belowThen B11.out hbw)
  have Kaw12 := Lib.hid (Kaw11.out.below hbw Kaw11.out.lt)
  have Kbw12 := Lib.hid (Kbw11.out.below hbw Kbw11.out.lt)
  have Kcw12 := Lib.hid (Kcw11.out.below hbw Kcw11.out.lt)
  rw [hx] at hk ⊢
  have Kdw12 := Lib.hid hk
  clear hk hbw hW hx
  go_wp2_with (go_at_call 6; refine (ka _).mono ?_; rintro x w13 ⟨rfl, hb⟩; have kka := Kaw12.out.below hb Kaw12.out.lt; have fa0 : w13.cell? ⟨gba, 0, none⟩ = some (.int .i64 xb) := kka.cell 0; have fa1 : w13.cell? ⟨gba, 1, none⟩ = some (.int .u64 xv) := kka.cell 1; have fa2 : w13.cell? ⟨gba, 2, none⟩ = some (.string xd) := kka.cell 2; have kkb := Kbw12.out.below hb Kbw12.out.lt; have fb0 : w13.cell? ⟨gbb, 0, none⟩ = some (.int .i64 xb) := kkb.cell 0; have fb1 : w13.cell? ⟨gbb, 1, none⟩ = some (.int .u64 xv) := kkb.cell 1; have fb2 : w13.cell? ⟨gbb, 2, none⟩ = some (.string xd) := kkb.cell 2; have kkc := Kcw12.out.below hb Kcw12.out.lt; have fc0 : w13.cell? ⟨gbc, 0, none⟩ = some (.int .i64 zb) := kkc.cell 0; have fc1 : w13.cell? ⟨gbc, 1, none⟩ = some (.int .u64 zv) := kkc.cell 1; have fc2 : w13.cell? ⟨gbc, 2, none⟩ = some (.string zd) := kkc.cell 2; have kkd := Kdw12.out.below hb Kdw12.out.lt; have fd0 : w13.cell? ⟨gbd, 0, none⟩ = some (.int .i64 zb) := kkd.cell 0; have fd1 : w13.cell? ⟨gbd, 1, none⟩ = some (.int .u64 zv) := kkd.cell 1; have fd2 : w13.cell? ⟨gbd, 2, none⟩ = some (.string zd) := kkd.cell 2; have B13 := Lib.hid (belowThen B12.out hb); clear hb)
  exact end_ret (t := 6) (v := .bool true) (by kernel_rfl) rfl rfl ⟨rfl, B13.out⟩
theorem walk (x : Im) (n : Int) (b : ByteArray) (w : World) (g0 : ImOk x) (g1 : (Lit.int .i64 n).wf = true) (g2 : b.size ≤ maxLen) : Calls Try.prog 3 #[iagg x, .int .i64 n, .string b] w fun e w' => e = .returned (.bool true) ∧ Below w.heap.size w w' := by
  have hd := g0.d
  have hb : b.size ≤ 9223372036854775807 := by unfold maxLen at g2; omega
  by_cases hc : 300 < x.d.size ∨ 300 < b.size
  · exact outside x.b x.v x.d n b w hd hb hc
  have kg := fun W => get_any n b W
  have kh := fun W => rget_any n b W
  generalize getR n b = X at kg kh
  obtain ⟨⟨xb, xv, xd⟩, xe⟩ := X
  have pad : ∃ U ue, (∀ W, Calls Try.prog 11 #[.string b] W fun e w' => e = .returned (.tuple #[.string U, .int .i64 ue]) ∧ Below W.heap.size W w') ∧ (∀ W, Calls Try.prog 12 #[.string b] W fun e w' => e = .returned (.tuple #[.string U, .int .i64 ue]) ∧ Below W.heap.size W w') := by
    by_cases h : 96 < b.size
    · exact ⟨_, _, fun W => pad_long b h W, fun W => rpad_long b h W⟩
    · exact ⟨_, _, fun W => pad_ok b (by omega) W, fun W => rpad_ok b (by omega) W⟩
  obtain ⟨U, ue, kd, ke⟩ := pad
  have put : ∃ S se, (∀ W, Calls Try.prog 7 #[iagg x] W fun e w' => e = .returned (.tuple #[.string S, .int .i64 se]) ∧ Below W.heap.size W w') ∧ (∀ W, Calls Try.prog 8 #[iagg x] W fun e w' => e = .returned (.tuple #[.string S, .int .i64 se]) ∧ Below W.heap.size W w') := by
    cases hr : rightB x
    · exact ⟨_, _, fun W => put_bad x g0 hr W, fun W => rputb_bad x g0 hr W⟩
    · exact ⟨_, _, fun W => put_ok x ((right_iff g0).1 hr) W, fun W => rputb_ok x ((right_iff g0).1 hr) W⟩
  obtain ⟨S, se, kp, kq⟩ := put
  have ki := fun W => get_any n S W
  have kj := fun W => rget_any n S W
  generalize getR n S = Z at ki kj
  obtain ⟨⟨zb, zv, zd⟩, ze⟩ := Z
  exact core x.b x.v x.d n b w (by omega) (by omega) S U xd zd se ue xb xv xe zb zv ze kp kq kg kh kd ke ki kj
end Go.Proofs.Ytcbhdggjcelmaaa.blockTells
