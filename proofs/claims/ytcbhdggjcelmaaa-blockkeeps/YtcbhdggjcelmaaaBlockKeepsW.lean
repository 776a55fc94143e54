/- BlockKeeps: the walk. No condition. -/
import Derived.Test.YtcbhdggjcelmaaaM3
import Derived.Laws.StructEq
namespace Go.Proofs.Ytcbhdggjcelmaaa.blockKeeps
set_option maxRecDepth 100000
open Go.RowKit Go.Proofs.Ytcbhdggjcelmaaa.BK Go.Proofs.Ytcbhdggjcelmaaa.SM Go.Proofs.Ytcbhdggjcelmaaa.DK Go.Proofs.Ytcbhdggjcelmaaa.SU
set_option linter.unusedVariables false
set_option linter.unusedSimpArgs false

theorem row_old {w W : World} {a : Option Addr} {n c : Nat} {z : List Int} (h : IsRow .i64 w a n c z) (hb : Below w.heap.size w W) : IsRow .i64 W a n c z := by
  rcases h with h | ⟨x, h0, h1, h2, h3, h4, h5⟩
  · exact .inl h
  · refine .inr ⟨x, h0, h1, h2, h3, fun i hi => ?_, h5⟩
    have := h4 i hi
    exact (hb.cell (p := x.add i) (World.block_lt_of_cell? w _ this)).trans this
set_option maxHeartbeats 8000000 in
theorem outside (a b : Im) (A : Option Addr) (m c : Nat) (w : World) (ha : a.d.size ≤ 9223372036854775807) (hb : b.d.size ≤ 9223372036854775807) (hc : ¬ (a.d.size = 96 ∧ b.d.size = 96 ∧ m ≤ 4 ∧ 0 ≤ a.b ∧ a.b ≤ 9 ∧ b.b = a.b)) (hm : m ≤ maxLen) : Calls Try.prog 5 #[iagg a, iagg b, .slice A m c] w fun e w' => e = .returned (.bool true) ∧ Below w.heap.size w w' := by
  have ka := fun W => BK.alive_any W
  unfold BK.Quiet at ka
  obtain ⟨ab, av, ad⟩ := a
  obtain ⟨bb, bv, bd⟩ := b
  unfold iagg
  dsimp only at ha hb hc ⊢
  have hbl := belowNew (belowNew (belowSame w) (.cells #[.int .i64 ab, .int .u64 av, .string ad] TIm)) (.cells #[.int .i64 bb, .int .u64 bv, .string bd] TIm)
  have HB := Lib.hid hbl
  clear hbl
  have hm2 : (m : Int) ≤ 9223372036854775807 := by unfold maxLen at hm; omega
  obtain ⟨sa, hsa⟩ : ∃ s, ad.size = s := ⟨_, rfl⟩
  obtain ⟨sb, hsb⟩ : ∃ s, bd.size = s := ⟨_, rfl⟩
  rw [hsa, hsb] at hc
  rw [hsa] at ha
  rw [hsb] at hb
  by_cases q0 : sa = 96
  case neg =>
    have n0 : ((sa : Int) == 96) = false := by simp; omega
    have n0b : ¬ (sa : Int) = 96 := by omega
    clear hc q0
    go_enter Try.func5, Try.ntmps5
    go_wp2_with (go_at_call 6; refine (ka _).mono ?_; rintro x w2 ⟨rfl, hb2⟩; have B2 := Lib.hid (belowThen HB.out hb2); clear hb2)
    exact end_ret (t := 6) (v := .bool true) (by kernel_rfl) rfl rfl ⟨rfl, B2.out⟩
  have n0 : ((sa : Int) == 96) = true := by simp; omega
  have n0b : (sa : Int) = 96 := by omega
  by_cases q1 : sb = 96
  case neg =>
    have n1 : ((sb : Int) == 96) = false := by simp; omega
    have n1b : ¬ (sb : Int) = 96 := by omega
    clear hc q1
    go_enter Try.func5, Try.ntmps5
    go_wp2_with (go_at_call 6; refine (ka _).mono ?_; rintro x w2 ⟨rfl, hb2⟩; have B2 := Lib.hid (belowThen HB.out hb2); clear hb2)
    exact end_ret (t := 6) (v := .bool true) (by kernel_rfl) rfl rfl ⟨rfl, B2.out⟩
  have n1 : ((sb : Int) == 96) = true := by simp; omega
  have n1b : (sb : Int) = 96 := by omega
  by_cases q2 : m ≤ 4
  case neg =>
    have n2 : decide ((4 : Int) < (m : Int)) = true := by simp; omega
    have n2b : ¬ (m : Int) ≤ 4 := by omega
    clear hc q2
    go_enter Try.func5, Try.ntmps5
    go_wp2_with (go_at_call 6; refine (ka _).mono ?_; rintro x w2 ⟨rfl, hb2⟩; have B2 := Lib.hid (belowThen HB.out hb2); clear hb2)
    exact end_ret (t := 6) (v := .bool true) (by kernel_rfl) rfl rfl ⟨rfl, B2.out⟩
  have n2 : decide ((4 : Int) < (m : Int)) = false := by simp; omega
  have n2b : (m : Int) ≤ 4 := by omega
  by_cases q3 : 0 ≤ ab
  case neg =>
    have n3 : decide (ab < 0) = true := by simp; omega
    have n3b : ¬ 0 ≤ ab := by omega
    clear hc q3
    go_enter Try.func5, Try.ntmps5
    go_wp2_with (go_at_call 6; refine (ka _).mono ?_; rintro x w2 ⟨rfl, hb2⟩; have B2 := Lib.hid (belowThen HB.out hb2); clear hb2)
    exact end_ret (t := 6) (v := .bool true) (by kernel_rfl) rfl rfl ⟨rfl, B2.out⟩
  have n3 : decide (ab < 0) = false := by simp; omega
  have n3b : 0 ≤ ab := by omega
  by_cases q4 : ab ≤ 9
  case neg =>
    have n4 : decide ((9 : Int) < ab) = true := by simp; omega
    have n4b : ¬ ab ≤ 9 := by omega
    clear hc q4
    go_enter Try.func5, Try.ntmps5
    go_wp2_with (go_at_call 6; refine (ka _).mono ?_; rintro x w2 ⟨rfl, hb2⟩; have B2 := Lib.hid (belowThen HB.out hb2); clear hb2)
    exact end_ret (t := 6) (v := .bool true) (by kernel_rfl) rfl rfl ⟨rfl, B2.out⟩
  have n4 : decide ((9 : Int) < ab) = false := by simp; omega
  have n4b : ab ≤ 9 := by omega
  have q5 : ¬ bb = ab := fun e => hc ⟨q0, q1, q2, q3, q4, e⟩
  have n5 : (bb == ab) = false := by simpa using q5
  have n5b : ¬ bb = ab := q5
  clear hc q0 q1 q2 q3 q4
  go_enter Try.func5, Try.ntmps5
  go_wp2_with (go_at_call 6; refine (ka _).mono ?_; rintro x w2 ⟨rfl, hb2⟩; have B2 := Lib.hid (belowThen HB.out hb2); clear hb2)
  exact end_ret (t := 6) (v := .bool true) (by kernel_rfl) rfl rfl ⟨rfl, B2.out⟩
set_option maxHeartbeats 16000000 in
theorem main (nn : Nat) (av bv : Int) (ad bd : ByteArray) (A : Option Addr) (m c : Nat) (z : List Int) (w : World) (ha : BK.Good ⟨(nn : Int), av, ad⟩) (hb : BK.Good ⟨(nn : Int), bv, bd⟩) (h10 : nn < 10) (hm4 : m ≤ 4) (hz : IsRow .i64 w A m c z) : Calls Try.prog 5 #[iagg ⟨(nn : Int), av, ad⟩, iagg ⟨(nn : Int), bv, bd⟩, .slice A m c] w fun e w' => e = .returned (.bool true) ∧ Below w.heap.size w w' := by
  have ka := fun W => BK.alive_any W
  unfold BK.Quiet at ka
  have kr := fun W => ready_any W
  unfold ReadyOut at kr
  have R := dr_ready
  have hN0 := nr_le
  generalize DR = D0 at *
  generalize NR = N0 at *
  obtain ⟨mm, hmm⟩ : ∃ mm, (nn + 1) % 10 = mm := ⟨_, rfl⟩
  have hmm10 : mm < 10 := by omega
  have hne : (mm : Int) ≠ (nn : Int) := by omega
  have d1 : (((nn : Int) + 1) % 10) = (mm : Int) := by omega
  have hnn : 0 ≤ (nn : Int) ∧ (nn : Int) < 10 := by omega
  have hmmi : 0 ≤ (mm : Int) ∧ (mm : Int) < 10 := by omega
  obtain ⟨D1, D2, D3, D4, D5, p1, p2, p3, hro, hrb, hrm0, p4, p5, hre, hT⟩ := keep_pack R ⟨(nn : Int), av, ad⟩ ⟨(nn : Int), bv, bd⟩ ha hb rfl hnn.2 (z.take m)
  have ksA := fun (w0 W : World) (g : Nat) (bl : List (Nat × TypeId × Array Value)) (h : OwnL w0 g N0 D0 bl W) => bstore_l h ⟨(nn : Int), av, ad⟩ ha hnn.2 1 9 (Nat.le_trans hN0 (by decide)) D1 p1.1 p1.2
  have kba := fun (w0 W : World) (g : Nat) (bl : List (Nat × TypeId × Array Value)) (h : OwnL w0 g (N0 + 16) D1 bl W) => barrier_l h 1 9 (by omega) D2 p2.1 p2.2
  have ksB := fun (w0 W : World) (g : Nat) (bl : List (Nat × TypeId × Array Value)) (h : OwnL w0 g (N0 + 16) D2 bl W) => bstore_l h ⟨(nn : Int), bv, bd⟩ hb hnn.2 1 9 (by omega) D3 p3.1 p3.2
  have hrm := hrm0 (mm : Int) hmmi hne
  dsimp only at hT ksA ksB hrb hre hrm
  rw [stays_row hz 0, stays_row hz 1] at hT
  obtain ⟨X, hX⟩ : ∃ X, getR (nn : Int) (readT D5 (17 + 2 * (nn : Int)) 2) = X := ⟨_, rfl⟩
  rw [hX] at hT
  obtain ⟨⟨zb, zv, zd⟩, ze⟩ := X
  generalize halfT ⟨(nn : Int), bv, bd⟩ 0 ++ halfT ⟨(nn : Int), av, ad⟩ 1 = H1 at hT
  generalize halfT ⟨(nn : Int), av, ad⟩ 0 ++ halfT ⟨(nn : Int), bv, bd⟩ 1 = H2 at hT
  have HT := Lib.hid hT
  have kl1 := fun (w0 W : World) (g N : Nat) (bl : List (Nat × TypeId × Array Value)) (h : OwnL w0 g N D3 bl W) => bload_l h (nn : Int) hnn (hro _ hnn) _ _ hrb
  have kl2 := fun (w0 W : World) (g N : Nat) (bl : List (Nat × TypeId × Array Value)) (h : OwnL w0 g N D3 bl W) => bload_l h (mm : Int) hmmi (hro _ hmmi) _ _ hrm
  have kcut := fun (w0 W : World) (g : Nat) (bl : List (Nat × TypeId × Array Value)) (h : OwnL w0 g (N0 + 16 + 16) D3 bl W) (hr : IsRow .i64 w0 A m c z) => cut_l h hr (by omega)
  rw [p4] at kcut
  have kre := fun (w0 W : World) (g N : Nat) (bl : List (Nat × TypeId × Array Value)) (h : OwnL w0 g N D4 bl W) => restore_l h
  rw [p5] at kre
  have kl3 := fun (w0 W : World) (g N : Nat) (bl : List (Nat × TypeId × Array Value)) (h : OwnL w0 g N D5 bl W) => bload_l h (nn : Int) hnn hre _ _ hX
  generalize (cutN D3 : Int) = cn at kcut
  clear p1 p2 p3 p4 p5 hrm0 hne
  have hda := ha.d
  have hdb := hb.d
  dsimp only at hda hdb
  have sa : (ad.size : Int) = 96 := by omega
  have sb : (bd.size : Int) = 96 := by omega
  have s3 : decide ((4 : Int) < (m : Int)) = false := by simp; omega
  have s4 : decide ((nn : Int) < 0) = false := by simp
  have s5 : decide ((9 : Int) < (nn : Int)) = false := by simp; omega
  have s6 : ((nn : Int) == (nn : Int)) = true := by simp
  have w1' : IntKind.i64.wrap ((nn : Int) + 1) = (nn : Int) + 1 := IntWalk.i64_in _ (by omega)
  have r1 : (bv == bv) = true := by simp
  have r2 : (bd.toList == bd.toList) = true := by simp
  have r3 : (av == av) = true := by simp
  have r4 : (ad.toList == ad.toList) = true := by simp
  unfold iagg sagg sh0 at *
  dsimp only at ksA ksB kl1 kl2 kl3 ⊢
  generalize zerosT 96 = Z96 at *
  have hk1 := Blk.new w TIm #[.int .i64 (nn : Int), .int .u64 av, .string ad]
  have hsz : (w.alloc (.cells #[.int .i64 (nn : Int), .int .u64 av, .string ad] TIm)).heap.size = w.heap.size + 1 := by simp
  have hk2 := Blk.new (w.alloc (.cells #[.int .i64 (nn : Int), .int .u64 av, .string ad] TIm)) TIm #[.int .i64 (nn : Int), .int .u64 bv, .string bd]
  have hbl := belowNew (belowNew (belowSame w) (.cells #[.int .i64 (nn : Int), .int .u64 av, .string ad] TIm)) (.cells #[.int .i64 (nn : Int), .int .u64 bv, .string bd] TIm)
  have hk3 := hk1.below (belowNew (belowSame (w.alloc (.cells #[.int .i64 (nn : Int), .int .u64 av, .string ad] TIm))) (.cells #[.int .i64 (nn : Int), .int .u64 bv, .string bd] TIm)) hk1.lt
  rw [hsz] at hk2
  obtain ⟨W0, hW0⟩ : ∃ W0, (w.alloc (.cells #[.int .i64 (nn : Int), .int .u64 av, .string ad] TIm)).alloc (.cells #[.int .i64 (nn : Int), .int .u64 bv, .string bd] TIm) = W0 := ⟨_, rfl⟩
  rw [hW0] at hk2 hk3 hbl
  obtain ⟨xa, hxa⟩ : ∃ x, w.heap.size = x := ⟨_, rfl⟩
  obtain ⟨xb, hxb⟩ : ∃ x, w.heap.size + 1 = x := ⟨_, rfl⟩
  rw [hxa] at hk3
  rw [hxb] at hk2
  have a0_0 : W0.cell? ⟨xa, 0, none⟩ = some (.int .i64 (nn : Int)) := hk3.cell 0
  have a0_1 : W0.cell? ⟨xa, 1, none⟩ = some (.int .u64 av) := hk3.cell 1
  have a0_2 : W0.cell? ⟨xa, 2, none⟩ = some (.string ad) := hk3.cell 2
  have b0_0 : W0.cell? ⟨xb, 0, none⟩ = some (.int .i64 (nn : Int)) := hk2.cell 0
  have b0_1 : W0.cell? ⟨xb, 1, none⟩ = some (.int .u64 bv) := hk2.cell 1
  have b0_2 : W0.cell? ⟨xb, 2, none⟩ = some (.string bd) := hk2.cell 2
  have HA := Lib.hid hk3
  have HBK := Lib.hid hk2
  have HBL := Lib.hid hbl
  have HW0 := Lib.hid hW0
  have HXA := Lib.hid hxa
  have HXB := Lib.hid hxb
  have HZ0 := Lib.hid hz
  have HR0 := Lib.hid (row_old hz hbl)
  have HNI := Lib.hid hmmi
  have HKA := Lib.hid ksA
  have HKB := Lib.hid ksB
  have HBA := Lib.hid kba
  have HL1 := Lib.hid kl1
  have HL2 := Lib.hid kl2
  have HL3 := Lib.hid kl3
  have HCU := Lib.hid kcut
  have HRE := Lib.hid kre
  have hm4' : (m : Int) ≤ 4 := by omega
  have hnn2 : (nn : Int) < 10 := hnn.2
  clear hk1 hk2 hk3 hbl hsz hW0 hxa hxb hz hT hX hre hro hrb hrm R hN0 ha hb hmm hmm10 hnn hmmi hda hdb ksA ksB kba kl1 kl2 kl3 kcut kre
  go_enter Try.func5, Try.ntmps5
  go_upto_region 1 with fail
  rw [HW0.out]
  try rw [HXB.out]
  try rw [HXA.out]
  go_upto_region 4 with (go_at_call 13; refine (kr _).mono ?_; rintro x w1 ⟨g, r, p, C, rfl, hd, hb, _, _, _⟩; have H1 := Lib.hid (Own.toL (w0 := W0) ⟨p, hd, hb⟩); clear hd hb)
  have h2 := H1.out.beside TLa #[.int .i64 2, .int .i64 10, .int .i64 8, .int .i64 4, .int .i64 32]
  obtain ⟨W2, hW2⟩ : ∃ W2, w1.alloc (.cells #[.int .i64 2, .int .i64 10, .int .i64 8, .int .i64 4, .int .i64 32] TLa) = W2 := ⟨_, rfl⟩
  rw [hW2] at h2 ⊢
  obtain ⟨x9, hx9⟩ : ∃ x, w1.heap.size = x := ⟨_, rfl⟩
  rw [hx9] at h2 ⊢
  have bk := h2.b0
  have ba := HA.out.below h2.bel HA.out.lt
  have c2_0 : W2.cell? ⟨x9, 0, none⟩ = some (.int .i64 2) := bk.cell 0
  have c2_1 : W2.cell? ⟨x9, 1, none⟩ = some (.int .i64 10) := bk.cell 1
  have c2_2 : W2.cell? ⟨x9, 2, none⟩ = some (.int .i64 8) := bk.cell 2
  have c2_3 : W2.cell? ⟨x9, 3, none⟩ = some (.int .i64 4) := bk.cell 3
  have c2_4 : W2.cell? ⟨x9, 4, none⟩ = some (.int .i64 32) := bk.cell 4
  have a2_0 : W2.cell? ⟨xa, 0, none⟩ = some (.int .i64 (nn : Int)) := ba.cell 0
  have a2_1 : W2.cell? ⟨xa, 1, none⟩ = some (.int .u64 av) := ba.cell 1
  have a2_2 : W2.cell? ⟨xa, 2, none⟩ = some (.string ad) := ba.cell 2
  have H2 := Lib.hid h2
  clear h2 hW2 hx9 bk ba kr H1 a0_0 a0_1 a0_2 b0_0 b0_1 b0_2
  go_upto_region 6 with (first
    | (go_at_call 14; ((with_reducible refine (HKA.out _ _ _ _ H2.out).mono ?_); rintro x w3 ⟨rfl, ho3⟩); have H3 := Lib.hid ho3; clear ho3 HKA)
    | (go_at_call 15; refine (HBA.out _ _ _ _ H3.out).mono ?_; rintro x w4 ⟨rfl, ho4⟩; have bk := ho4.b0; have bb := HBK.out.below ho4.bel HBK.out.lt; have c4_0 : w4.cell? ⟨x9, 0, none⟩ = some (.int .i64 2) := bk.cell 0; have c4_1 : w4.cell? ⟨x9, 1, none⟩ = some (.int .i64 10) := bk.cell 1; have c4_2 : w4.cell? ⟨x9, 2, none⟩ = some (.int .i64 8) := bk.cell 2; have c4_3 : w4.cell? ⟨x9, 3, none⟩ = some (.int .i64 4) := bk.cell 3; have c4_4 : w4.cell? ⟨x9, 4, none⟩ = some (.int .i64 32) := bk.cell 4; have b4_0 : w4.cell? ⟨xb, 0, none⟩ = some (.int .i64 (nn : Int)) := bb.cell 0; have b4_1 : w4.cell? ⟨xb, 1, none⟩ = some (.int .u64 bv) := bb.cell 1; have b4_2 : w4.cell? ⟨xb, 2, none⟩ = some (.string bd) := bb.cell 2; have H4 := Lib.hid ho4; clear ho4 bk bb HBA c2_0 c2_1 c2_2 c2_3 c2_4 a2_0 a2_1 a2_2)
    | (go_at_call 14; ((with_reducible refine (HKB.out _ _ _ _ H4.out).mono ?_); rintro x w5 ⟨rfl, ho5⟩); have bk := ho5.b0; have bb := HBK.out.below ho5.bel HBK.out.lt; have c5_0 : w5.cell? ⟨x9, 0, none⟩ = some (.int .i64 2) := bk.cell 0; have c5_1 : w5.cell? ⟨x9, 1, none⟩ = some (.int .i64 10) := bk.cell 1; have c5_2 : w5.cell? ⟨x9, 2, none⟩ = some (.int .i64 8) := bk.cell 2; have c5_3 : w5.cell? ⟨x9, 3, none⟩ = some (.int .i64 4) := bk.cell 3; have c5_4 : w5.cell? ⟨x9, 4, none⟩ = some (.int .i64 32) := bk.cell 4; have b5_0 : w5.cell? ⟨xb, 0, none⟩ = some (.int .i64 (nn : Int)) := bb.cell 0; have H5 := Lib.hid ho5; clear ho5 bk bb c4_0 c4_1 c4_2 c4_3 c4_4 b4_0 b4_1 b4_2 HKB))
  go_upto_region 7 with (go_at_call 16; refine (HL1.out _ _ _ _ _ H5.out).mono ?_; rintro x w6 ⟨rfl, ho6⟩; have H6 := Lib.hid ho6; clear ho6 HL1)
  have h7 := H6.out.beside TIm #[.int .i64 (nn : Int), .int .u64 bv, .string bd]
  obtain ⟨W7, hW7⟩ : ∃ W7, w6.alloc (.cells #[.int .i64 (nn : Int), .int .u64 bv, .string bd] TIm) = W7 := ⟨_, rfl⟩
  rw [hW7] at h7 ⊢
  obtain ⟨x11, hx11⟩ : ∃ x, w6.heap.size = x := ⟨_, rfl⟩
  rw [hx11] at h7 ⊢
  have bk := h7.b1
  have bb := HBK.out.below h7.bel HBK.out.lt
  have c7_0 : W7.cell? ⟨x9, 0, none⟩ = some (.int .i64 2) := bk.cell 0
  have c7_1 : W7.cell? ⟨x9, 1, none⟩ = some (.int .i64 10) := bk.cell 1
  have c7_2 : W7.cell? ⟨x9, 2, none⟩ = some (.int .i64 8) := bk.cell 2
  have c7_3 : W7.cell? ⟨x9, 3, none⟩ = some (.int .i64 4) := bk.cell 3
  have c7_4 : W7.cell? ⟨x9, 4, none⟩ = some (.int .i64 32) := bk.cell 4
  have b7_0 : W7.cell? ⟨xb, 0, none⟩ = some (.int .i64 (nn : Int)) := bb.cell 0
  have H7 := Lib.hid h7
  clear h7 hW7 hx11 bk bb H6 c5_0 c5_1 c5_2 c5_3 c5_4 b5_0
  go_upto_region 8 with (go_at_call 16; refine (HL2.out _ _ _ _ _ H7.out).mono ?_; rintro x w8 ⟨rfl, ho8⟩; have H8 := Lib.hid ho8; clear ho8 HL2)
  have h9 := H8.out.beside TIm #[.int .i64 (mm : Int), .int .u64 0, .string Z96]
  obtain ⟨W9, hW9⟩ : ∃ W9, w8.alloc (.cells #[.int .i64 (mm : Int), .int .u64 0, .string Z96] TIm) = W9 := ⟨_, rfl⟩
  rw [hW9] at h9 ⊢
  obtain ⟨x13, hx13⟩ : ∃ x, w8.heap.size = x := ⟨_, rfl⟩
  rw [hx13] at h9 ⊢
  have H9 := Lib.hid h9
  clear h9 hW9 hx13 H8 c7_0 c7_1 c7_2 c7_3 c7_4 b7_0
  go_upto_region 10 with (first
    | (go_at_call 17; refine (HCU.out _ _ _ _ H9.out HR0.out).mono ?_; rintro x w10 ⟨rfl, ho10⟩; have H10 := Lib.hid ho10; clear ho10 HCU)
    | (go_at_call 18; refine (HRE.out _ _ _ _ _ H10.out).mono ?_; rintro x w11 ⟨rfl, ho11⟩; have bk := ho11.b2; have bb := HBK.out.below ho11.bel HBK.out.lt; have c11_0 : w11.cell? ⟨x9, 0, none⟩ = some (.int .i64 2) := bk.cell 0; have c11_1 : w11.cell? ⟨x9, 1, none⟩ = some (.int .i64 10) := bk.cell 1; have c11_2 : w11.cell? ⟨x9, 2, none⟩ = some (.int .i64 8) := bk.cell 2; have c11_3 : w11.cell? ⟨x9, 3, none⟩ = some (.int .i64 4) := bk.cell 3; have c11_4 : w11.cell? ⟨x9, 4, none⟩ = some (.int .i64 32) := bk.cell 4; have b11_0 : w11.cell? ⟨xb, 0, none⟩ = some (.int .i64 (nn : Int)) := bb.cell 0; have H11 := Lib.hid ho11; clear ho11 bk bb HRE))
  go_upto_region 11 with (go_at_call 16; refine (HL3.out _ _ _ _ _ H11.out).mono ?_; rintro x w12 ⟨rfl, ho12⟩; have H12 := Lib.hid ho12; clear ho12 HL3)
  have h13 := H12.out.beside TIm #[.int .i64 zb, .int .u64 zv, .string zd]
  obtain ⟨W13, hW13⟩ : ∃ W13, w12.alloc (.cells #[.int .i64 zb, .int .u64 zv, .string zd] TIm) = W13 := ⟨_, rfl⟩
  rw [hW13] at h13 ⊢
  obtain ⟨x15, hx15⟩ : ∃ x, w12.heap.size = x := ⟨_, rfl⟩
  rw [hx15] at h13 ⊢
  have bz := h13.b0
  have ba := HA.out.below h13.bel HA.out.lt
  have bb := HBK.out.below h13.bel HBK.out.lt
  have z_0 : W13.cell? ⟨x15, 0, none⟩ = some (.int .i64 zb) := bz.cell 0
  have z_1 : W13.cell? ⟨x15, 1, none⟩ = some (.int .u64 zv) := bz.cell 1
  have z_2 : W13.cell? ⟨x15, 2, none⟩ = some (.string zd) := bz.cell 2
  have aa_0 : W13.cell? ⟨xa, 0, none⟩ = some (.int .i64 (nn : Int)) := ba.cell 0
  have aa_1 : W13.cell? ⟨xa, 1, none⟩ = some (.int .u64 av) := ba.cell 1
  have aa_2 : W13.cell? ⟨xa, 2, none⟩ = some (.string ad) := ba.cell 2
  have bb_0 : W13.cell? ⟨xb, 0, none⟩ = some (.int .i64 (nn : Int)) := bb.cell 0
  have bb_1 : W13.cell? ⟨xb, 1, none⟩ = some (.int .u64 bv) := bb.cell 1
  have bb_2 : W13.cell? ⟨xb, 2, none⟩ = some (.string bd) := bb.cell 2
  have HY := Lib.hid h13.b1
  have HX := Lib.hid h13.b2
  have H13 := Lib.hid h13
  have HBB := Lib.hid bb
  have HBW := Lib.hid (HBL.out.trans (h13.bel.mono HBL.out.size))
  clear h13 hW13 hx15 bz ba bb H12 c11_0 c11_1 c11_2 c11_3 c11_4 b11_0 H2 H3 H4 H5 H7 H9 H10 H11 HA HBK HXA HXB HW0 HNI
  obtain ⟨k0, hk0⟩ : ∃ k, z.getD 0 0 = k := ⟨_, rfl⟩
  obtain ⟨k1, hk1⟩ : ∃ k, z.getD 1 0 = k := ⟨_, rfl⟩
  have hT := HT.out
  rw [hk0, hk1] at hT
  have HT2 := Lib.hid hT
  have HK0 := Lib.hid hk0
  have HK1 := Lib.hid hk1
  clear hT HT hk0 hk1
  rcases Nat.eq_zero_or_pos m with hm0 | hm0
  · have g0 : decide (0 < m) = false := by simp; omega
    have g1 : decide (1 < m) = false := by simp; omega
    have i2 : decide ((2 : Int) ≤ (m : Int)) = false := by simp; omega
    have i1 : decide ((m : Int) < 1) = true := by simp; omega
    have i3 : decide ((m : Int) < 2) = true := by simp; omega
    have hT := HT2.out
    simp only [g0, g1, Bool.and_true, Bool.and_false, Bool.true_and, Bool.false_and, if_true, if_false, Bool.false_eq_true, reduceIte, Prod.mk.injEq, Im.mk.injEq] at hT
    obtain ⟨⟨e1, e2, e3⟩, e4⟩ := hT
    obtain rfl := e1.symm
    obtain rfl := e2.symm
    obtain rfl := e3.symm
    obtain rfl := e4.symm
    clear HT2 HK0 HK1 HZ0 HR0
    go_wp2_with (go_at_call 6; refine (ka _).mono ?_; rintro x w20 ⟨rfl, hb⟩; have xk := HX.out.below hb HX.out.lt; have yk := HY.out.below hb HY.out.lt; have bk := HBB.out.below hb HBB.out.lt; have x20_0 : w20.cell? ⟨x11, 0, none⟩ = some (.int .i64 (nn : Int)) := xk.cell 0; have x20_1 : w20.cell? ⟨x11, 1, none⟩ = some (.int .u64 bv) := xk.cell 1; have x20_2 : w20.cell? ⟨x11, 2, none⟩ = some (.string bd) := xk.cell 2; have b20_0 : w20.cell? ⟨xb, 0, none⟩ = some (.int .i64 (nn : Int)) := bk.cell 0; have b20_1 : w20.cell? ⟨xb, 1, none⟩ = some (.int .u64 bv) := bk.cell 1; have b20_2 : w20.cell? ⟨xb, 2, none⟩ = some (.string bd) := bk.cell 2; have y20_1 : w20.cell? ⟨x13, 1, none⟩ = some (.int .u64 0) := yk.cell 1; have B20 := Lib.hid (belowThen HBW.out hb); clear hb xk yk bk)
    exact end_ret (t := 6) (v := .bool true) (by kernel_rfl) rfl rfl ⟨rfl, B20.out⟩
  · obtain ⟨kb, off, rfl, hkb, hkc⟩ := HZ0.out.cells hm0
    have y0 : W13.cell? ⟨kb, off + 0, none⟩ = some (.int .i64 k0) := by rw [← HK0.out]; exact (HBW.out.cell (p := ⟨kb, off + 0, none⟩) hkb).trans (hkc 0 (by omega))
    rw [Nat.add_zero] at y0
    have g0 : decide (0 < m) = true := by simp; omega
    have g0' : decide ((0 : Int) < (m : Int)) = true := by simp; omega
    have hm0' : (0 : Int) < (m : Int) := by omega
    have i1 : decide ((m : Int) < 1) = false := by simp; omega
    rcases Nat.lt_or_ge 1 m with hm1 | hm1
    · have g1 : decide (1 < m) = true := by simp; omega
      have g1' : decide ((1 : Int) < (m : Int)) = true := by simp; omega
      have hm1' : (1 : Int) < (m : Int) := by omega
      have i2 : decide ((2 : Int) ≤ (m : Int)) = true := by simp; omega
      have i3 : decide ((m : Int) < 2) = false := by simp; omega
      have y1 : W13.cell? ⟨kb, off + 1, none⟩ = some (.int .i64 k1) := by rw [← HK1.out]; exact (HBW.out.cell (p := ⟨kb, off + 1, none⟩) hkb).trans (hkc 1 (by omega))
      have ev0 := odd_two k0
      have ev1 := odd_two k1
      clear hkb hkc
      cases o0 : oddB k0 <;> cases o1 : oddB k1
      · have p0 : (bits BinOp.and IntKind.i64 k0 1 == 1) = false := o0
        have p1 : (bits BinOp.and IntKind.i64 k1 1 == 1) = false := o1
        have e0 := ev0.2 o0
        have e1 := ev1.2 o1
        clear ev0 ev1
        have hT := HT2.out
        simp only [g0, g1, o0, o1, Bool.and_true, Bool.and_false, Bool.true_and, Bool.false_and, if_true, if_false, Bool.false_eq_true, reduceIte, Prod.mk.injEq, Im.mk.injEq] at hT
        obtain ⟨⟨e1, e2, e3⟩, e4⟩ := hT
        obtain rfl := e1.symm
        obtain rfl := e2.symm
        obtain rfl := e3.symm
        obtain rfl := e4.symm
        clear HT2 HK0 HK1 HZ0 HR0
        go_wp2_with (go_at_call 6; refine (ka _).mono ?_; rintro x w20 ⟨rfl, hb⟩; have xk := HX.out.below hb HX.out.lt; have yk := HY.out.below hb HY.out.lt; have bk := HBB.out.below hb HBB.out.lt; have x20_0 : w20.cell? ⟨x11, 0, none⟩ = some (.int .i64 (nn : Int)) := xk.cell 0; have x20_1 : w20.cell? ⟨x11, 1, none⟩ = some (.int .u64 bv) := xk.cell 1; have x20_2 : w20.cell? ⟨x11, 2, none⟩ = some (.string bd) := xk.cell 2; have b20_0 : w20.cell? ⟨xb, 0, none⟩ = some (.int .i64 (nn : Int)) := bk.cell 0; have b20_1 : w20.cell? ⟨xb, 1, none⟩ = some (.int .u64 bv) := bk.cell 1; have b20_2 : w20.cell? ⟨xb, 2, none⟩ = some (.string bd) := bk.cell 2; have y20_1 : w20.cell? ⟨x13, 1, none⟩ = some (.int .u64 0) := yk.cell 1; have B20 := Lib.hid (belowThen HBW.out hb); clear hb xk yk bk)
        exact end_ret (t := 6) (v := .bool true) (by kernel_rfl) rfl rfl ⟨rfl, B20.out⟩
      · have p0 : (bits BinOp.and IntKind.i64 k0 1 == 1) = false := o0
        have p1 : (bits BinOp.and IntKind.i64 k1 1 == 1) = true := o1
        have e0 := ev0.2 o0
        have e1 := ev1.1 o1
        clear ev0 ev1
        have hT := HT2.out
        by_cases hv : av = bv
        · obtain rfl := hv.symm
          simp only [g0, g1, o0, o1, Bool.and_true, Bool.and_false, Bool.true_and, Bool.false_and, if_true, if_false, Bool.false_eq_true, reduceIte, Prod.mk.injEq, Im.mk.injEq] at hT
          obtain ⟨⟨e1, e2, e3⟩, e4⟩ := hT
          obtain rfl := e1.symm
          obtain rfl := e2.symm
          obtain rfl := e3.symm
          obtain rfl := e4.symm
          clear HT2 HK0 HK1 HZ0 HR0
          go_wp2_with (go_at_call 6; refine (ka _).mono ?_; rintro x w20 ⟨rfl, hb⟩; have xk := HX.out.below hb HX.out.lt; have yk := HY.out.below hb HY.out.lt; have bk := HBB.out.below hb HBB.out.lt; have x20_0 : w20.cell? ⟨x11, 0, none⟩ = some (.int .i64 (nn : Int)) := xk.cell 0; have x20_1 : w20.cell? ⟨x11, 1, none⟩ = some (.int .u64 bv) := xk.cell 1; have x20_2 : w20.cell? ⟨x11, 2, none⟩ = some (.string bd) := xk.cell 2; have b20_0 : w20.cell? ⟨xb, 0, none⟩ = some (.int .i64 (nn : Int)) := bk.cell 0; have b20_1 : w20.cell? ⟨xb, 1, none⟩ = some (.int .u64 bv) := bk.cell 1; have b20_2 : w20.cell? ⟨xb, 2, none⟩ = some (.string bd) := bk.cell 2; have y20_1 : w20.cell? ⟨x13, 1, none⟩ = some (.int .u64 0) := yk.cell 1; have B20 := Lib.hid (belowThen HBW.out hb); clear hb xk yk bk)
          exact end_ret (t := 6) (v := .bool true) (by kernel_rfl) rfl rfl ⟨rfl, B20.out⟩
        · have v1 : (av == bv) = false := by simpa using hv
          have hv2 : ¬ bv = av := fun e => hv e.symm
          rw [if_neg hv, if_neg hv2] at hT
          simp only [g0, g1, o0, o1, Bool.and_true, Bool.and_false, Bool.true_and, Bool.false_and, if_true, if_false, Bool.false_eq_true, reduceIte, Prod.mk.injEq, Im.mk.injEq] at hT
          obtain ⟨⟨e1, e2, e3⟩, e4⟩ := hT
          obtain rfl := e1.symm
          obtain rfl := e2.symm
          obtain rfl := e3.symm
          obtain rfl := e4.symm
          clear HT2 HK0 HK1 HZ0 HR0 hv2
          go_wp2_with (go_at_call 6; refine (ka _).mono ?_; rintro x w20 ⟨rfl, hb⟩; have xk := HX.out.below hb HX.out.lt; have yk := HY.out.below hb HY.out.lt; have bk := HBB.out.below hb HBB.out.lt; have x20_0 : w20.cell? ⟨x11, 0, none⟩ = some (.int .i64 (nn : Int)) := xk.cell 0; have x20_1 : w20.cell? ⟨x11, 1, none⟩ = some (.int .u64 bv) := xk.cell 1; have x20_2 : w20.cell? ⟨x11, 2, none⟩ = some (.string bd) := xk.cell 2; have b20_0 : w20.cell? ⟨xb, 0, none⟩ = some (.int .i64 (nn : Int)) := bk.cell 0; have b20_1 : w20.cell? ⟨xb, 1, none⟩ = some (.int .u64 bv) := bk.cell 1; have b20_2 : w20.cell? ⟨xb, 2, none⟩ = some (.string bd) := bk.cell 2; have y20_1 : w20.cell? ⟨x13, 1, none⟩ = some (.int .u64 0) := yk.cell 1; have B20 := Lib.hid (belowThen HBW.out hb); clear hb xk yk bk)
          exact end_ret (t := 6) (v := .bool true) (by kernel_rfl) rfl rfl ⟨rfl, B20.out⟩
      · have p0 : (bits BinOp.and IntKind.i64 k0 1 == 1) = true := o0
        have p1 : (bits BinOp.and IntKind.i64 k1 1 == 1) = false := o1
        have e0 := ev0.1 o0
        have e1 := ev1.2 o1
        clear ev0 ev1
        have hT := HT2.out
        by_cases hv : av = bv
        · obtain rfl := hv.symm
          simp only [g0, g1, o0, o1, Bool.and_true, Bool.and_false, Bool.true_and, Bool.false_and, if_true, if_false, Bool.false_eq_true, reduceIte, Prod.mk.injEq, Im.mk.injEq] at hT
          obtain ⟨⟨e1, e2, e3⟩, e4⟩ := hT
          obtain rfl := e1.symm
          obtain rfl := e2.symm
          obtain rfl := e3.symm
          obtain rfl := e4.symm
          clear HT2 HK0 HK1 HZ0 HR0
          go_wp2_with (go_at_call 6; refine (ka _).mono ?_; rintro x w20 ⟨rfl, hb⟩; have xk := HX.out.below hb HX.out.lt; have yk := HY.out.below hb HY.out.lt; have bk := HBB.out.below hb HBB.out.lt; have x20_0 : w20.cell? ⟨x11, 0, none⟩ = some (.int .i64 (nn : Int)) := xk.cell 0; have x20_1 : w20.cell? ⟨x11, 1, none⟩ = some (.int .u64 bv) := xk.cell 1; have x20_2 : w20.cell? ⟨x11, 2, none⟩ = some (.string bd) := xk.cell 2; have b20_0 : w20.cell? ⟨xb, 0, none⟩ = some (.int .i64 (nn : Int)) := bk.cell 0; have b20_1 : w20.cell? ⟨xb, 1, none⟩ = some (.int .u64 bv) := bk.cell 1; have b20_2 : w20.cell? ⟨xb, 2, none⟩ = some (.string bd) := bk.cell 2; have y20_1 : w20.cell? ⟨x13, 1, none⟩ = some (.int .u64 0) := yk.cell 1; have B20 := Lib.hid (belowThen HBW.out hb); clear hb xk yk bk)
          exact end_ret (t := 6) (v := .bool true) (by kernel_rfl) rfl rfl ⟨rfl, B20.out⟩
        · have v1 : (av == bv) = false := by simpa using hv
          have hv2 : ¬ bv = av := fun e => hv e.symm
          rw [if_neg hv, if_neg hv2] at hT
          simp only [g0, g1, o0, o1, Bool.and_true, Bool.and_false, Bool.true_and, Bool.false_and, if_true, if_false, Bool.false_eq_true, reduceIte, Prod.mk.injEq, Im.mk.injEq] at hT
          obtain ⟨⟨e1, e2, e3⟩, e4⟩ := hT
          obtain rfl := e1.symm
          obtain rfl := e2.symm
          obtain rfl := e3.symm
          obtain rfl := e4.symm
          clear HT2 HK0 HK1 HZ0 HR0 hv2
          go_wp2_with (go_at_call 6; refine (ka _).mono ?_; rintro x w20 ⟨rfl, hb⟩; have xk := HX.out.below hb HX.out.lt; have yk := HY.out.below hb HY.out.lt; have bk := HBB.out.below hb HBB.out.lt; have x20_0 : w20.cell? ⟨x11, 0, none⟩ = some (.int .i64 (nn : Int)) := xk.cell 0; have x20_1 : w20.cell? ⟨x11, 1, none⟩ = some (.int .u64 bv) := xk.cell 1; have x20_2 : w20.cell? ⟨x11, 2, none⟩ = some (.string bd) := xk.cell 2; have b20_0 : w20.cell? ⟨xb, 0, none⟩ = some (.int .i64 (nn : Int)) := bk.cell 0; have b20_1 : w20.cell? ⟨xb, 1, none⟩ = some (.int .u64 bv) := bk.cell 1; have b20_2 : w20.cell? ⟨xb, 2, none⟩ = some (.string bd) := bk.cell 2; have y20_1 : w20.cell? ⟨x13, 1, none⟩ = some (.int .u64 0) := yk.cell 1; have B20 := Lib.hid (belowThen HBW.out hb); clear hb xk yk bk)
          exact end_ret (t := 6) (v := .bool true) (by kernel_rfl) rfl rfl ⟨rfl, B20.out⟩
      · have p0 : (bits BinOp.and IntKind.i64 k0 1 == 1) = true := o0
        have p1 : (bits BinOp.and IntKind.i64 k1 1 == 1) = true := o1
        have e0 := ev0.1 o0
        have e1 := ev1.1 o1
        clear ev0 ev1
        have hT := HT2.out
        simp only [g0, g1, o0, o1, Bool.and_true, Bool.and_false, Bool.true_and, Bool.false_and, if_true, if_false, Bool.false_eq_true, reduceIte, Prod.mk.injEq, Im.mk.injEq] at hT
        obtain ⟨⟨e1, e2, e3⟩, e4⟩ := hT
        obtain rfl := e1.symm
        obtain rfl := e2.symm
        obtain rfl := e3.symm
        obtain rfl := e4.symm
        clear HT2 HK0 HK1 HZ0 HR0
        go_wp2_with (go_at_call 6; refine (ka _).mono ?_; rintro x w20 ⟨rfl, hb⟩; have xk := HX.out.below hb HX.out.lt; have yk := HY.out.below hb HY.out.lt; have bk := HBB.out.below hb HBB.out.lt; have x20_0 : w20.cell? ⟨x11, 0, none⟩ = some (.int .i64 (nn : Int)) := xk.cell 0; have x20_1 : w20.cell? ⟨x11, 1, none⟩ = some (.int .u64 bv) := xk.cell 1; have x20_2 : w20.cell? ⟨x11, 2, none⟩ = some (.string bd) := xk.cell 2; have b20_0 : w20.cell? ⟨xb, 0, none⟩ = some (.int .i64 (nn : Int)) := bk.cell 0; have b20_1 : w20.cell? ⟨xb, 1, none⟩ = some (.int .u64 bv) := bk.cell 1; have b20_2 : w20.cell? ⟨xb, 2, none⟩ = some (.string bd) := bk.cell 2; have y20_1 : w20.cell? ⟨x13, 1, none⟩ = some (.int .u64 0) := yk.cell 1; have B20 := Lib.hid (belowThen HBW.out hb); clear hb xk yk bk)
        exact end_ret (t := 6) (v := .bool true) (by kernel_rfl) rfl rfl ⟨rfl, B20.out⟩
    · have g1 : decide (1 < m) = false := by simp; omega
      have i2 : decide ((2 : Int) ≤ (m : Int)) = false := by simp; omega
      have i3 : decide ((m : Int) < 2) = true := by simp; omega
      have ev0 := odd_two k0
      clear hkb hkc
      cases o0 : oddB k0
      · have p0 : (bits BinOp.and IntKind.i64 k0 1 == 1) = false := o0
        have e0 := ev0.2 o0
        clear ev0
        have hT := HT2.out
        simp only [g0, g1, o0, Bool.and_true, Bool.and_false, Bool.true_and, Bool.false_and, if_true, if_false, Bool.false_eq_true, reduceIte, Prod.mk.injEq, Im.mk.injEq] at hT
        obtain ⟨⟨e1, e2, e3⟩, e4⟩ := hT
        obtain rfl := e1.symm
        obtain rfl := e2.symm
        obtain rfl := e3.symm
        obtain rfl := e4.symm
        clear HT2 HK0 HK1 HZ0 HR0
        go_wp2_with (go_at_call 6; refine (ka _).mono ?_; rintro x w20 ⟨rfl, hb⟩; have xk := HX.out.below hb HX.out.lt; have yk := HY.out.below hb HY.out.lt; have bk := HBB.out.below hb HBB.out.lt; have x20_0 : w20.cell? ⟨x11, 0, none⟩ = some (.int .i64 (nn : Int)) := xk.cell 0; have x20_1 : w20.cell? ⟨x11, 1, none⟩ = some (.int .u64 bv) := xk.cell 1; have x20_2 : w20.cell? ⟨x11, 2, none⟩ = some (.string bd) := xk.cell 2; have b20_0 : w20.cell? ⟨xb, 0, none⟩ = some (.int .i64 (nn : Int)) := bk.cell 0; have b20_1 : w20.cell? ⟨xb, 1, none⟩ = some (.int .u64 bv) := bk.cell 1; have b20_2 : w20.cell? ⟨xb, 2, none⟩ = some (.string bd) := bk.cell 2; have y20_1 : w20.cell? ⟨x13, 1, none⟩ = some (.int .u64 0) := yk.cell 1; have B20 := Lib.hid (belowThen HBW.out hb); clear hb xk yk bk)
        exact end_ret (t := 6) (v := .bool true) (by kernel_rfl) rfl rfl ⟨rfl, B20.out⟩
      · have p0 : (bits BinOp.and IntKind.i64 k0 1 == 1) = true := o0
        have e0 := ev0.1 o0
        clear ev0
        have hT := HT2.out
        by_cases hv : av = bv
        · obtain rfl := hv.symm
          simp only [g0, g1, o0, Bool.and_true, Bool.and_false, Bool.true_and, Bool.false_and, if_true, if_false, Bool.false_eq_true, reduceIte, Prod.mk.injEq, Im.mk.injEq] at hT
          obtain ⟨⟨e1, e2, e3⟩, e4⟩ := hT
          obtain rfl := e1.symm
          obtain rfl := e2.symm
          obtain rfl := e3.symm
          obtain rfl := e4.symm
          clear HT2 HK0 HK1 HZ0 HR0
          go_wp2_with (go_at_call 6; refine (ka _).mono ?_; rintro x w20 ⟨rfl, hb⟩; have xk := HX.out.below hb HX.out.lt; have yk := HY.out.below hb HY.out.lt; have bk := HBB.out.below hb HBB.out.lt; have x20_0 : w20.cell? ⟨x11, 0, none⟩ = some (.int .i64 (nn : Int)) := xk.cell 0; have x20_1 : w20.cell? ⟨x11, 1, none⟩ = some (.int .u64 bv) := xk.cell 1; have x20_2 : w20.cell? ⟨x11, 2, none⟩ = some (.string bd) := xk.cell 2; have b20_0 : w20.cell? ⟨xb, 0, none⟩ = some (.int .i64 (nn : Int)) := bk.cell 0; have b20_1 : w20.cell? ⟨xb, 1, none⟩ = some (.int .u64 bv) := bk.cell 1; have b20_2 : w20.cell? ⟨xb, 2, none⟩ = some (.string bd) := bk.cell 2; have y20_1 : w20.cell? ⟨x13, 1, none⟩ = some (.int .u64 0) := yk.cell 1; have B20 := Lib.hid (belowThen HBW.out hb); clear hb xk yk bk)
          exact end_ret (t := 6) (v := .bool true) (by kernel_rfl) rfl rfl ⟨rfl, B20.out⟩
        · have v1 : (av == bv) = false := by simpa using hv
          have hv2 : ¬ bv = av := fun e => hv e.symm
          rw [if_neg hv, if_neg hv2] at hT
          simp only [g0, g1, o0, Bool.and_true, Bool.and_false, Bool.true_and, Bool.false_and, if_true, if_false, Bool.false_eq_true, reduceIte, Prod.mk.injEq, Im.mk.injEq] at hT
          obtain ⟨⟨e1, e2, e3⟩, e4⟩ := hT
          obtain rfl := e1.symm
          obtain rfl := e2.symm
          obtain rfl := e3.symm
          obtain rfl := e4.symm
          clear HT2 HK0 HK1 HZ0 HR0 hv2
          go_wp2_with (go_at_call 6; refine (ka _).mono ?_; rintro x w20 ⟨rfl, hb⟩; have xk := HX.out.below hb HX.out.lt; have yk := HY.out.below hb HY.out.lt; have bk := HBB.out.below hb HBB.out.lt; have x20_0 : w20.cell? ⟨x11, 0, none⟩ = some (.int .i64 (nn : Int)) := xk.cell 0; have x20_1 : w20.cell? ⟨x11, 1, none⟩ = some (.int .u64 bv) := xk.cell 1; have x20_2 : w20.cell? ⟨x11, 2, none⟩ = some (.string bd) := xk.cell 2; have b20_0 : w20.cell? ⟨xb, 0, none⟩ = some (.int .i64 (nn : Int)) := bk.cell 0; have b20_1 : w20.cell? ⟨xb, 1, none⟩ = some (.int .u64 bv) := bk.cell 1; have b20_2 : w20.cell? ⟨xb, 2, none⟩ = some (.string bd) := bk.cell 2; have y20_1 : w20.cell? ⟨x13, 1, none⟩ = some (.int .u64 0) := yk.cell 1; have B20 := Lib.hid (belowThen HBW.out hb); clear hb xk yk bk)
          exact end_ret (t := 6) (v := .bool true) (by kernel_rfl) rfl rfl ⟨rfl, B20.out⟩
theorem walk (a b : Im) (A : Option Addr) (m c : Nat) (z : List Int) (w : World) (g0 : ImOk a) (g1 : ImOk b) (g2 : IsRow .i64 w A m c z) : Calls Try.prog 5 #[iagg a, iagg b, .slice A m c] w fun e w' => e = .returned (.bool true) ∧ Below w.heap.size w w' := by
  by_cases h : a.d.size = 96 ∧ b.d.size = 96 ∧ m ≤ 4 ∧ 0 ≤ a.b ∧ a.b ≤ 9 ∧ b.b = a.b
  · obtain ⟨h1, h2, h3, h4, h5, h6⟩ := h
    have va := g0.v
    have vb := g1.v
    obtain ⟨ab, av, ad⟩ := a
    obtain ⟨bb, bv, bd⟩ := b
    dsimp only at h1 h2 h4 h5 h6 va vb
    subst h6
    obtain ⟨nn, rfl⟩ : ∃ nn : Nat, bb = (nn : Int) := ⟨bb.toNat, by omega⟩
    exact main nn av bv ad bd A m c z w ⟨by show 0 ≤ (nn : Int) ∧ (nn : Int) < 4096; omega, va, h1⟩ ⟨by show 0 ≤ (nn : Int) ∧ (nn : Int) < 4096; omega, vb, h2⟩ (by omega) h3 g2
  · exact outside a b A m c w g0.d g1.d h (by have := g2.len; omega)
end Go.Proofs.Ytcbhdggjcelmaaa.blockKeeps
