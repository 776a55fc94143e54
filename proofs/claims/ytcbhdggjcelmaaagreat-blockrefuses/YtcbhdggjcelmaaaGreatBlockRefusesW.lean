/- BlockRefuses: the walk. No condition. -/
import Derived.Test.YtcbhdggjcelmaaaGreatM4
import Derived.Laws.StructEq
namespace Go.Proofs.YtcbhdggjcelmaaaGreat.blockRefuses
set_option maxRecDepth 100000
open Go.RowKit Go.Proofs.YtcbhdggjcelmaaaGreat.BK Go.Proofs.YtcbhdggjcelmaaaGreat.SM Go.Proofs.YtcbhdggjcelmaaaGreat.DK Go.Proofs.YtcbhdggjcelmaaaGreat.SU Go.Proofs.YtcbhdggjcelmaaaGreat.RD
set_option linter.unusedVariables false
set_option linter.unusedSimpArgs false

theorem outside (xb xv : Int) (xd : ByteArray) (n node ep : Int) (w : World) (h1 : xd.size ≤ 9223372036854775807) (hc : 300 < xd.size) : Calls Tryz.prog 3 #[iagg ⟨xb, xv, xd⟩, .int .i64 n, .int .i64 node, .int .u64 ep] w fun e w' => e = .returned (.bool true) ∧ Below w.heap.size w w' := by
  have ka := fun W => BK.alive_any W
  unfold BK.Quiet at ka
  unfold iagg
  have n1 : decide ((300 : Int) < (xd.size : Int)) = true := by simp; omega
  have HB := Lib.hid (belowNew (belowSame w) (.cells #[.int .i64 xb, .int .u64 xv, .string xd] TIm))
  clear hc
  go_enter Tryz.func3, Tryz.ntmps3
  go_wp2_with (go_at_call 4; refine (ka _).mono ?_; rintro x w2 ⟨rfl, hb2⟩; have B2 := Lib.hid (belowThen HB.out hb2); clear hb2)
  exact end_ret (t := 8) (v := .bool true) (by kernel_rfl) rfl rfl ⟨rfl, B2.out⟩
set_option maxHeartbeats 16000000 in
theorem core (xb xv : Int) (xd : ByteArray) (n node ep : Int) (w : World) (h1 : xd.size ≤ 300) (D0 D1 : Dk) (R0 R1 : Rk) (N0 N1 : Nat) (se yb yv ye : Int) (yd : ByteArray)
    (kb : ∀ (W0 W : World) (g r : Nat) (R : Rk) (bl : Bls), BothL W0 g r N0 D0 R bl W → Calls Tryz.prog 6 #[.pointer (some ⟨g, 0, none⟩), .agg #[.int .i64 2, .int .i64 10, .int .i64 8, .int .i64 4, .int .i64 32], .int .i64 node, .int .u64 ep, .agg #[.int .i64 xb, .int .u64 xv, .string xd]] W fun z w' => z = .returned (.int .i64 se) ∧ BothL W0 g r N1 D1 R bl w')
    (kr0 : ∀ (W0 W : World) (g r : Nat) (bl : Bls), BothL W0 g r N0 D0 R0 bl W → Calls Tryz.prog 7 #[.pointer (some ⟨r, 0, none⟩), .agg #[.int .i64 2, .int .i64 10, .int .i64 8, .int .i64 4, .int .i64 32], .int .i64 node, .int .u64 ep, .agg #[.int .i64 xb, .int .u64 xv, .string xd]] W fun z w' => z = .returned (.int .i64 se) ∧ BothL W0 g r N0 D0 R1 bl w')
    (kr1 : ∀ (W0 W : World) (g r : Nat) (bl : Bls), BothL W0 g r N1 D1 R0 bl W → Calls Tryz.prog 7 #[.pointer (some ⟨r, 0, none⟩), .agg #[.int .i64 2, .int .i64 10, .int .i64 8, .int .i64 4, .int .i64 32], .int .i64 node, .int .u64 ep, .agg #[.int .i64 xb, .int .u64 xv, .string xd]] W fun z w' => z = .returned (.int .i64 se) ∧ BothL W0 g r N1 D1 R1 bl w')
    (kl : ∀ (W0 W : World) (g r : Nat) (bl : Bls), BothL W0 g r N1 D1 R1 bl W → Calls Tryz.prog 8 #[.pointer (some ⟨g, 0, none⟩), .agg #[.int .i64 2, .int .i64 10, .int .i64 8, .int .i64 4, .int .i64 32], .int .i64 n] W fun z w' => z = .returned (.tuple #[.agg #[.int .i64 yb, .int .u64 yv, .string yd], .int .i64 ye]) ∧ BothL W0 g r N1 D1 R1 bl w' ∧ Below W.heap.size W w')
    (km : ∀ (W0 W : World) (g r : Nat) (bl : Bls), BothL W0 g r N1 D1 R1 bl W → Calls Tryz.prog 9 #[.pointer (some ⟨r, 0, none⟩), .agg #[.int .i64 2, .int .i64 10, .int .i64 8, .int .i64 4, .int .i64 32], .int .i64 n] W fun z w' => z = .returned (.tuple #[.agg #[.int .i64 yb, .int .u64 yv, .string yd], .int .i64 ye]) ∧ BothL W0 g r N1 D1 R1 bl w' ∧ Below W.heap.size W w')
    (kn : ∀ W : World, Calls Tryz.prog 8 #[.pointer none, .agg #[.int .i64 2, .int .i64 10, .int .i64 8, .int .i64 4, .int .i64 32], .int .i64 0] W fun z w' => z = .returned (.tuple #[.agg #[.int .i64 0, .int .u64 0, .string ⟨#[]⟩], .int .i64 14]) ∧ Below W.heap.size W w')
    (kq : ∀ W : World, Calls Tryz.prog 5 #[] W fun e w' => ∃ g r, e = .returned (.tuple #[.pointer (some ⟨g, 0, none⟩), .pointer (some ⟨r, 0, none⟩), .agg #[.int .i64 2, .int .i64 10, .int .i64 8, .int .i64 4, .int .i64 32], .bool true]) ∧ BothL W g r N0 D0 R0 [] w')
    : Calls Tryz.prog 3 #[.agg #[.int .i64 xb, .int .u64 xv, .string xd], .int .i64 n, .int .i64 node, .int .u64 ep] w fun e w' => e = .returned (.bool true) ∧ Below w.heap.size w w' := by
  have ka := fun W => BK.alive_any W
  unfold BK.Quiet at ka
  have n1 : decide ((300 : Int) < (xd.size : Int)) = false := by simp; omega
  clear h1
  have ei0 : (se == se) = true := by simp
  have ei1 : (yb == yb) = true := by simp
  have ei2 : (yv == yv) = true := by simp
  have ei3 : (ye == ye) = true := by simp
  have ed0 : (yd.toList == yd.toList) = true := by simp
  have hk := Blk.new w TIm #[.int .i64 xb, .int .u64 xv, .string xd]
  have hb0 := belowNew (belowSame w) (.cells #[.int .i64 xb, .int .u64 xv, .string xd] TIm)
  obtain ⟨W0, hW0⟩ : ∃ W0, w.alloc (.cells #[.int .i64 xb, .int .u64 xv, .string xd] TIm) = W0 := ⟨_, rfl⟩
  rw [hW0] at hk hb0
  obtain ⟨xi, hxi⟩ : ∃ i, w.heap.size = i := ⟨_, rfl⟩
  rw [hxi] at hk
  have a0_0 : W0.cell? ⟨xi, 0, none⟩ = some (.int .i64 xb) := hk.cell 0
  have a0_1 : W0.cell? ⟨xi, 1, none⟩ = some (.int .u64 xv) := hk.cell 1
  have a0_2 : W0.cell? ⟨xi, 2, none⟩ = some (.string xd) := hk.cell 2
  have HA := Lib.hid hk
  have HB0 := Lib.hid hb0
  have HW0 := Lib.hid hW0
  have HXI := Lib.hid hxi
  have KB := Lib.hid kb
  have KR0 := Lib.hid kr0
  have KR1 := Lib.hid kr1
  have KL := Lib.hid kl
  have KM := Lib.hid km
  have KN := Lib.hid kn
  clear hk hb0 hW0 hxi kb kr0 kr1 kl km kn
  go_enter Tryz.func3, Tryz.ntmps3
  go_upto_region 1 with fail
  rw [HW0.out]
  try rw [HXI.out]
  go_upto_region 4 with (go_at_call 5; refine (kq _).mono ?_; rintro x w1 ⟨g, r, rfl, hd⟩; have H1 := Lib.hid hd; clear hd)
  have h2 := H1.out.beside TLa #[.int .i64 2, .int .i64 10, .int .i64 8, .int .i64 4, .int .i64 32]
  obtain ⟨W2, hW2⟩ : ∃ W2, w1.alloc (.cells #[.int .i64 2, .int .i64 10, .int .i64 8, .int .i64 4, .int .i64 32] TLa) = W2 := ⟨_, rfl⟩
  rw [hW2] at h2 ⊢
  obtain ⟨x9, hx9⟩ : ∃ x, w1.heap.size = x := ⟨_, rfl⟩
  rw [hx9] at h2 ⊢
  have bk := h2.b0
  have ba := HA.out.below h2.bel HA.out.lt
  have c2_0 : W2.cell? ⟨x9, 0, none⟩ = some (.int .i64 2) := bk.cell 0
  have c2_1 : W2.cell? ⟨x9, 1, none⟩ = some (.int .i64 10) := bk.cell 1
  have c2_2 : W2.cell? ⟨x9, 2, none⟩ = some (.int .i64 8) := bk.cell 2
  have c2_3 : W2.cell? ⟨x9, 3, none⟩ = some (.int .i64 4) := bk.cell 3
  have c2_4 : W2.cell? ⟨x9, 4, none⟩ = some (.int .i64 32) := bk.cell 4
  have a2_0 : W2.cell? ⟨xi, 0, none⟩ = some (.int .i64 xb) := ba.cell 0
  have a2_1 : W2.cell? ⟨xi, 1, none⟩ = some (.int .u64 xv) := ba.cell 1
  have a2_2 : W2.cell? ⟨xi, 2, none⟩ = some (.string xd) := ba.cell 2
  have HF : Hid (∀ (N : Nat) (D : Dk) (R : Rk) (W : World), BothL W0 g r N D R [(x9, TLa, #[.int .i64 2, .int .i64 10, .int .i64 8, .int .i64 4, .int .i64 32])] W → W.cell? ⟨xi, 0, none⟩ = some (.int .i64 xb) ∧ W.cell? ⟨xi, 1, none⟩ = some (.int .u64 xv) ∧ W.cell? ⟨xi, 2, none⟩ = some (.string xd) ∧ W.cell? ⟨x9, 0, none⟩ = some (.int .i64 2) ∧ W.cell? ⟨x9, 1, none⟩ = some (.int .i64 10) ∧ W.cell? ⟨x9, 2, none⟩ = some (.int .i64 8) ∧ W.cell? ⟨x9, 3, none⟩ = some (.int .i64 4) ∧ W.cell? ⟨x9, 4, none⟩ = some (.int .i64 32)) := Lib.hid (fun N D R W h => by
    have bk := h.b0
    have ba := HA.out.below h.bel HA.out.lt
    exact ⟨ba.cell 0, ba.cell 1, ba.cell 2, bk.cell 0, bk.cell 1, bk.cell 2, bk.cell 3, bk.cell 4⟩)
  have H2 := Lib.hid h2
  clear h2 hW2 hx9 bk ba kq H1 a0_0 a0_1 a0_2
  go_upto_region 6 with fail
  refine wp_region_held_drew (S := (fun w' => w'.cell? ⟨xi, 0, none⟩ = some (.int .i64 xb) ∧ w'.cell? ⟨xi, 1, none⟩ = some (.int .u64 xv) ∧ w'.cell? ⟨xi, 2, none⟩ = some (.string xd) ∧ w'.cell? ⟨x9, 0, none⟩ = some (.int .i64 2) ∧ w'.cell? ⟨x9, 1, none⟩ = some (.int .i64 10) ∧ w'.cell? ⟨x9, 2, none⟩ = some (.int .i64 8) ∧ w'.cell? ⟨x9, 3, none⟩ = some (.int .i64 4) ∧ w'.cell? ⟨x9, 4, none⟩ = some (.int .i64 32))) (by kernel_rfl) ⟨a2_0, a2_1, a2_2, c2_0, c2_1, c2_2, c2_3, c2_4⟩ (fun hHeld => ?_)
  refine wpAnyH_take (i := 0) (oi := ⟨some 34, _, _, _, _, _⟩) (v := ?_) rfl (by kernel_rfl) (by kernel_rfl) (by kernel_rfl) (fun _ _ _ h => h) (Or.inl ⟨by rfl, ?_⟩) (by assumption) ?_
  rotate_left
  · (intro w hSw; (try dsimp only at hSw); go_split_ands; go_simp); try (with_reducible rfl)
  try simp only [Act.put, List.setIfInBounds_toArray, List.set_cons_zero, List.set_cons_succ]
  refine wpAnyH_take (i := 1) (oi := ⟨some 35, _, _, _, _, _⟩) (v := ?_) rfl (by kernel_rfl) (by kernel_rfl) (by kernel_rfl) (fun _ _ _ h => h) (Or.inl ⟨by rfl, ?_⟩) (by assumption) ?_
  rotate_left
  · (intro w hSw; (try dsimp only at hSw); go_split_ands; go_simp); try (with_reducible rfl)
  try simp only [Act.put, List.setIfInBounds_toArray, List.set_cons_zero, List.set_cons_succ]
  refine wpAnyH_take (i := 2) (oi := ⟨some 36, _, _, _, _, _⟩) (v := ?_) rfl (by kernel_rfl) (by kernel_rfl) (by kernel_rfl) (fun _ _ _ h => h) (Or.inl ⟨by rfl, ?_⟩) (by assumption) ?_
  rotate_left
  · (intro w hSw; (try dsimp only at hSw); go_split_ands; go_simp); try (with_reducible rfl)
  try simp only [Act.put, List.setIfInBounds_toArray, List.set_cons_zero, List.set_cons_succ]
  refine wpAnyH_take (i := 3) (oi := ⟨some 37, _, _, _, _, _⟩) (v := ?_) rfl (by kernel_rfl) (by kernel_rfl) (by kernel_rfl) (fun _ _ _ h => h) (Or.inl ⟨by rfl, ?_⟩) (by assumption) ?_
  rotate_left
  · (intro w hSw; (try dsimp only at hSw); go_split_ands; go_simp); try (with_reducible rfl)
  try simp only [Act.put, List.setIfInBounds_toArray, List.set_cons_zero, List.set_cons_succ]
  refine wpAnyH_take (i := 4) (oi := ⟨some 38, _, _, _, _, _⟩) (v := ?_) rfl (by kernel_rfl) (by kernel_rfl) (by kernel_rfl) (fun _ _ _ h => h) (Or.inl ⟨by rfl, ?_⟩) (by assumption) ?_
  rotate_left
  · (intro w hSw; (try dsimp only at hSw); go_split_ands; go_simp); try (with_reducible rfl)
  try simp only [Act.put, List.setIfInBounds_toArray, List.set_cons_zero, List.set_cons_succ]
  refine wpAnyH_take (i := 6) (oi := ⟨some 40, _, _, _, _, _⟩) (v := ?_) rfl (by kernel_rfl) (by kernel_rfl) (by kernel_rfl) (fun _ _ _ h => h) (Or.inl ⟨by rfl, ?_⟩) (by assumption) ?_
  rotate_left
  · (intro w hSw; (try dsimp only at hSw); go_split_ands; go_simp); try (with_reducible rfl)
  try simp only [Act.put, List.setIfInBounds_toArray, List.set_cons_zero, List.set_cons_succ]
  refine wpAnyH_take (i := 7) (oi := ⟨some 41, _, _, _, _, _⟩) (v := ?_) rfl (by kernel_rfl) (by kernel_rfl) (by kernel_rfl) (fun _ _ _ h => h) (Or.inl ⟨by rfl, ?_⟩) (by assumption) ?_
  rotate_left
  · (intro w hSw; (try dsimp only at hSw); go_split_ands; go_simp); try (with_reducible rfl)
  try simp only [Act.put, List.setIfInBounds_toArray, List.set_cons_zero, List.set_cons_succ]
  refine wpAnyH_take (i := 8) (oi := ⟨some 42, _, _, _, _, _⟩) (v := ?_) rfl (by kernel_rfl) (by kernel_rfl) (by kernel_rfl) (fun _ _ _ h => h) (Or.inl ⟨by rfl, ?_⟩) (by assumption) ?_
  rotate_left
  · (intro w hSw; (try dsimp only at hSw); go_split_ands; go_simp); try (with_reducible rfl)
  try simp only [Act.put, List.setIfInBounds_toArray, List.set_cons_zero, List.set_cons_succ]
  refine wpAnyH_take (i := 9) (oi := ⟨some 43, _, _, _, _, _⟩) (v := ?_) rfl (by kernel_rfl) (by kernel_rfl) (by kernel_rfl) (fun _ _ _ h => h) (Or.inl ⟨by rfl, ?_⟩) (by assumption) ?_
  rotate_left
  · (intro w hSw; (try dsimp only at hSw); go_split_ands; go_simp); try (with_reducible rfl)
  try simp only [Act.put, List.setIfInBounds_toArray, List.set_cons_zero, List.set_cons_succ]
  refine wpAnyH_take (i := 10) (oi := ⟨some 44, _, _, _, _, _⟩) (v := ?_) rfl (by kernel_rfl) (by kernel_rfl) (by kernel_rfl) (fun _ _ _ h => h) (Or.inl ⟨by rfl, ?_⟩) (by assumption) ?_
  rotate_left
  · (intro w hSw; (try dsimp only at hSw); go_split_ands; go_simp); try (with_reducible rfl)
  try simp only [Act.put, List.setIfInBounds_toArray, List.set_cons_zero, List.set_cons_succ]
  refine wpAnyH_take (i := 11) (oi := ⟨some 45, _, _, _, _, _⟩) (v := ?_) rfl (by kernel_rfl) (by kernel_rfl) (by kernel_rfl) (fun _ _ _ h => h) (Or.inl ⟨by rfl, ?_⟩) (by assumption) ?_
  rotate_left
  · (intro w hSw; (try dsimp only at hSw); go_split_ands; go_simp); try (with_reducible rfl)
  try simp only [Act.put, List.setIfInBounds_toArray, List.set_cons_zero, List.set_cons_succ]
  refine wpAnyH_ready (rs := [5]) (by kernel_rfl) (by simp) ?_
  refine AllReadyH.cons (o := ⟨some 39, _, _, _, _, _⟩) rfl (fun K hK => ?_) AllReadyH.nil
  go_simp
  go_at_call 6
  ((with_reducible refine (KB.out _ _ _ _ _ _ (H2.out.drew)).mono ?_); rintro x w3 ⟨rfl, ho⟩; have H3 := Lib.hid ho; clear ho)
  try (go_wp2_with fail)
  refine hK.out _ _ ?_ (fun hHeld => ?_)
  · exact HF.out _ _ _ _ H3.out
  clear hK K
  refine wpAnyH_ready (rs := [12]) (by kernel_rfl) (by simp) ?_
  refine AllReadyH.cons (o := ⟨some 46, _, _, _, _, _⟩) rfl (fun K hK => ?_) AllReadyH.nil
  go_simp
  go_at_call 7
  ((with_reducible refine (KR1.out _ _ _ _ _ (H3.out)).mono ?_); rintro x w4 ⟨rfl, ho⟩; have H4 := Lib.hid ho; clear ho)
  try (go_wp2_with fail)
  refine hK.out _ _ ?_ (fun hHeld => ?_)
  · exact HF.out _ _ _ _ H4.out
  clear hK K
  refine wpAnyH_take (i := 13) (oi := ⟨some 13, _, _, _, _, _⟩) (v := ?_) rfl (by kernel_rfl) (by kernel_rfl) (by kernel_rfl) (fun _ _ _ h => h) (Or.inl ⟨by rfl, ?_⟩) (by assumption) ?_
  rotate_left
  · (intro w hSw; (try dsimp only at hSw); go_split_ands; go_simp); try (with_reducible rfl)
  try simp only [Act.put, List.setIfInBounds_toArray, List.set_cons_zero, List.set_cons_succ]
  refine wpAnyH_take (i := 14) (oi := ⟨some 14, _, _, _, _, _⟩) (v := ?_) rfl (by kernel_rfl) (by kernel_rfl) (by kernel_rfl) (fun _ _ _ h => h) (Or.inl ⟨by rfl, ?_⟩) (by assumption) ?_
  rotate_left
  · (intro w hSw; (try dsimp only at hSw); go_split_ands; go_simp); try (with_reducible rfl)
  try simp only [Act.put, List.setIfInBounds_toArray, List.set_cons_zero, List.set_cons_succ]
  refine wpAnyH_done (by kernel_rfl) ?_ _
  obtain ⟨a4_0, a4_1, a4_2, c4_0, c4_1, c4_2, c4_3, c4_4⟩ := HF.out _ _ _ _ H4.out
  clear H2 H3 KB KR0 KR1 a2_0 a2_1 a2_2 c2_0 c2_1 c2_2 c2_3 c2_4 a4_0 a4_1 a4_2
  go_upto_region 8 with (go_at_call 8; ((with_reducible refine (KL.out _ _ _ _ _ H4.out).mono ?_); rintro x w5 ⟨rfl, ho, hb⟩); have H5 := Lib.hid ho; clear ho hb KL)
  have hq := H5.out.beside TIm #[.int .i64 yb, .int .u64 yv, .string yd]
  obtain ⟨W6, hW⟩ : ∃ W, w5.alloc (.cells #[.int .i64 yb, .int .u64 yv, .string yd] TIm) = W := ⟨_, rfl⟩
  rw [hW] at hq ⊢
  obtain ⟨x15, hx⟩ : ∃ x, w5.heap.size = x := ⟨_, rfl⟩
  rw [hx] at hq ⊢
  have bk := hq.blk (b := (x9, TLa, #[.int .i64 2, .int .i64 10, .int .i64 8, .int .i64 4, .int .i64 32])) (List.mem_cons_of_mem _ (List.mem_cons_self ..))
  have c6_0 : W6.cell? ⟨x9, 0, none⟩ = some (.int .i64 2) := bk.cell 0
  have c6_1 : W6.cell? ⟨x9, 1, none⟩ = some (.int .i64 10) := bk.cell 1
  have c6_2 : W6.cell? ⟨x9, 2, none⟩ = some (.int .i64 8) := bk.cell 2
  have c6_3 : W6.cell? ⟨x9, 3, none⟩ = some (.int .i64 4) := bk.cell 3
  have c6_4 : W6.cell? ⟨x9, 4, none⟩ = some (.int .i64 32) := bk.cell 4
  have H6 := Lib.hid hq
  clear hq hW hx bk H5 c4_0 c4_1 c4_2 c4_3 c4_4
  go_upto_region 9 with (go_at_call 9; ((with_reducible refine (KM.out _ _ _ _ _ H6.out).mono ?_); rintro x w7 ⟨rfl, ho, hb⟩); have H7 := Lib.hid ho; clear ho hb KM)
  have hq := H7.out.beside TIm #[.int .i64 yb, .int .u64 yv, .string yd]
  obtain ⟨W8, hW⟩ : ∃ W, w7.alloc (.cells #[.int .i64 yb, .int .u64 yv, .string yd] TIm) = W := ⟨_, rfl⟩
  rw [hW] at hq ⊢
  obtain ⟨x17, hx⟩ : ∃ x, w7.heap.size = x := ⟨_, rfl⟩
  rw [hx] at hq ⊢
  have bk := hq.blk (b := (x9, TLa, #[.int .i64 2, .int .i64 10, .int .i64 8, .int .i64 4, .int .i64 32])) (List.mem_cons_of_mem _ (List.mem_cons_of_mem _ (List.mem_cons_self ..)))
  have c8_0 : W8.cell? ⟨x9, 0, none⟩ = some (.int .i64 2) := bk.cell 0
  have c8_1 : W8.cell? ⟨x9, 1, none⟩ = some (.int .i64 10) := bk.cell 1
  have c8_2 : W8.cell? ⟨x9, 2, none⟩ = some (.int .i64 8) := bk.cell 2
  have c8_3 : W8.cell? ⟨x9, 3, none⟩ = some (.int .i64 4) := bk.cell 3
  have c8_4 : W8.cell? ⟨x9, 4, none⟩ = some (.int .i64 32) := bk.cell 4
  have H8 := Lib.hid hq
  clear hq hW hx bk H7 c6_0 c6_1 c6_2 c6_3 c6_4
  go_upto_region 10 with (go_at_call 8; ((with_reducible refine (KN.out _).mono ?_); rintro x w9 ⟨rfl, hb⟩); have H9 := Lib.hid (H8.out.then_ hb); clear hb KN)
  have hq := H9.out.beside TIm #[.int .i64 0, .int .u64 0, .string ⟨#[]⟩]
  obtain ⟨W10, hW⟩ : ∃ W, w9.alloc (.cells #[.int .i64 0, .int .u64 0, .string ⟨#[]⟩] TIm) = W := ⟨_, rfl⟩
  rw [hW] at hq ⊢
  obtain ⟨x19, hx⟩ : ∃ x, w9.heap.size = x := ⟨_, rfl⟩
  rw [hx] at hq ⊢
  have bk := hq.blk (b := (x9, TLa, #[.int .i64 2, .int .i64 10, .int .i64 8, .int .i64 4, .int .i64 32])) (List.mem_cons_of_mem _ (List.mem_cons_of_mem _ (List.mem_cons_of_mem _ (List.mem_cons_self ..))))
  have c10_0 : W10.cell? ⟨x9, 0, none⟩ = some (.int .i64 2) := bk.cell 0
  have c10_1 : W10.cell? ⟨x9, 1, none⟩ = some (.int .i64 10) := bk.cell 1
  have c10_2 : W10.cell? ⟨x9, 2, none⟩ = some (.int .i64 8) := bk.cell 2
  have c10_3 : W10.cell? ⟨x9, 3, none⟩ = some (.int .i64 4) := bk.cell 3
  have c10_4 : W10.cell? ⟨x9, 4, none⟩ = some (.int .i64 32) := bk.cell 4
  have H10 := Lib.hid hq
  clear hq hW hx bk H9 c8_0 c8_1 c8_2 c8_3 c8_4
  go_wp2_with (go_at_call 4; refine (ka _).mono ?_; rintro x w11 ⟨rfl, hb⟩; have hq := H10.out.then_ hb; have by_ := hq.blk (b := (x15, TIm, #[.int .i64 yb, .int .u64 yv, .string yd])) (List.mem_cons_of_mem _ (List.mem_cons_of_mem _ (List.mem_cons_self ..))); have bz_ := hq.blk (b := (x17, TIm, #[.int .i64 yb, .int .u64 yv, .string yd])) (List.mem_cons_of_mem _ (List.mem_cons_self ..)); have fy0 : w11.cell? ⟨x15, 0, none⟩ = some (.int .i64 yb) := by_.cell 0; have fy1 : w11.cell? ⟨x15, 1, none⟩ = some (.int .u64 yv) := by_.cell 1; have fy2 : w11.cell? ⟨x15, 2, none⟩ = some (.string yd) := by_.cell 2; have fz0 : w11.cell? ⟨x17, 0, none⟩ = some (.int .i64 yb) := bz_.cell 0; have fz1 : w11.cell? ⟨x17, 1, none⟩ = some (.int .u64 yv) := bz_.cell 1; have fz2 : w11.cell? ⟨x17, 2, none⟩ = some (.string yd) := bz_.cell 2; have B11 := Lib.hid (belowThen HB0.out hq.bel); clear hb hq by_ bz_)
  exact end_ret (t := 8) (v := .bool true) (by kernel_rfl) rfl rfl ⟨rfl, B11.out⟩
theorem many_short (R : Rk) (x : Im) (n e : Int) (h : R.L.length ≤ 1000) : (stR R x n e).L.length ≤ 1000000 := by
  unfold stR
  split
  · rw [more_two, List.length_append, List.length_append]
    simp only [List.length_singleton]
    omega
  · omega
theorem walk (x : Im) (n node ep : Int) (w : World) (g0 : ImOk x) (g1 : (Lit.int .i64 n).wf = true) (g2 : (Lit.int .i64 node).wf = true) (g3 : (Lit.int .u64 ep).wf = true) : Calls Tryz.prog 3 #[iagg x, .int .i64 n, .int .i64 node, .int .u64 ep] w fun e w' => e = .returned (.bool true) ∧ Below w.heap.size w w' := by
  have hd := g0.d
  by_cases hc : 300 < x.d.size
  · exact outside x.b x.v x.d n node ep w hd hc
  have ht := twin_ready
  have hl : RR.L.length ≤ 1000 := by rw [rr_len]; decide
  have hn := nr_le
  have kq := fun W : World => (ready_any W).mono fun e w' h => ready_both h
  generalize DR = D0 at *
  generalize RR = R0 at *
  generalize NR = N0 at *
  have ht1 := ht.stored x g0 node ep
  have hl1 := many_short R0 x node ep hl
  obtain ⟨X, hX⟩ : ∃ X, ldX (stR R0 x node ep) n = X := ⟨_, rfl⟩
  obtain ⟨⟨yb, yv, yd⟩, ye⟩ := X
  refine core x.b x.v x.d n node ep w (by omega) D0 (stD D0 R0 x node ep) R0 (stR R0 x node ep) N0 (N0 + 16) (stE R0 x node ep) yb yv ye yd
    (fun W0 W g r R bl h => both_b ht h x g0 node ep (by omega))
    (fun W0 W g r bl h => both_r ht h ht.stays x g0 node ep (by omega))
    (fun W0 W g r bl h => both_r ht h ht1.stays x g0 node ep (by omega))
    (fun W0 W g r bl h => ?_) (fun W0 W g r bl h => ?_) (fun W => bload_nil W) kq
  · have := both_lb ht1 h n
    rw [hX] at this
    exact this
  · have := both_lr ht1 h n hl1
    rw [hX] at this
    exact this
end Go.Proofs.YtcbhdggjcelmaaaGreat.blockRefuses
