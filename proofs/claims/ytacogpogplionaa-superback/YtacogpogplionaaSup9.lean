/- commonslaw9.alive. No condition. -/
import Derived.Test.YtacogpogplionaaSup8
namespace Go.Proofs.Ytacogpogplionaa.SU
set_option maxRecDepth 100000
open Go.RowKit Go.Proofs.Ytacogpogplionaa.MI Go.Proofs.Ytacogpogplionaa.WI Go.Proofs.Ytacogpogplionaa.SM Go.Proofs.Ytacogpogplionaa.DK
set_option linter.unusedVariables false
set_option linter.unusedSimpArgs false

def Quiet (w : World) (e : Ending) (w' : World) : Prop := e = .returned (.bool true) ∧ Below w.heap.size w w'
theorem z0 : sizeI sh0 = 37 := by decide +kernel
set_option maxHeartbeats 8000000 in
theorem alive_any (w : World) : Calls Try.prog 6 #[] w (Quiet w) := by
  have ksh := fun W => shape_any W
  have kl := fun W => log_ok sh0 good0 2 (by decide) W
  rw [show logI sh0 2 = 9 by decide +kernel] at kl
  have kb := fun W => block_ok sh0 good0 0 (by decide) W
  rw [show blockI sh0 0 = 17 by decide +kernel] at kb
  have ks := fun W => size_ok sh0 good0 W
  rw [z0] at ks
  have kn := fun W => own_new W (belowSame W) 40 (by omega) (by omega)
  have hr : sizeI sh0 ≤ ((newK 40).room : Int) := by rw [z0]; decide
  have kf := fun (w0 W : World) (g : Nat) (h : Own w0 g 0 (newK 40) W) => format_any h sh0 rfl rfl (by decide) good0 hr (by omega)
  obtain ⟨f1, f2, f3, f4⟩ := format_up (D := newK 40) (s := sh0) rfl rfl (by decide) good0 hr
  obtain ⟨r1, r2⟩ := format_read (D := newK 40) (s := sh0) rfl rfl (by decide) good0 hr
  have kld := fun (w0 W : World) (g N : Nat) (h : Own w0 g N (formatK (newK 40) sh0) W) => load_any h sh0 good0 (by rw [f3]; exact hr) r1 r2
  generalize formatK (newK 40) sh0 = DF at *
  generalize 0 + 16 * zRounds (sizeI sh0) + 16 = NF at *
  unfold sagg sh0 at *
  clear hr f1 f2 f3 f4 r1 r2
  go_enter Try.func6, Try.ntmps6
  go_upto_region 2 with (go_at_call 13; refine (ksh _).mono ?_; rintro x w1 ⟨rfl, hb1⟩; have B1 := Lib.hid hb1; clear hb1)
  have hbl := Blk.new w1 TLa #[.int .i64 2, .int .i64 10, .int .i64 8, .int .i64 4, .int .i64 32]
  have hb2 := belowNew B1.out (.cells #[.int .i64 2, .int .i64 10, .int .i64 8, .int .i64 4, .int .i64 32] TLa)
  obtain ⟨W2, hW2⟩ : ∃ W2, w1.alloc (.cells #[.int .i64 2, .int .i64 10, .int .i64 8, .int .i64 4, .int .i64 32] TLa) = W2 := ⟨_, rfl⟩
  rw [hW2] at hbl hb2 ⊢
  obtain ⟨x1, hx1⟩ : ∃ x, w1.heap.size = x := ⟨_, rfl⟩
  rw [hx1] at hbl ⊢
  have c0 : W2.cell? ⟨x1, 0, none⟩ = some (.int .i64 2) := hbl.cell 0
  have c1 : W2.cell? ⟨x1, 1, none⟩ = some (.int .i64 10) := hbl.cell 1
  have c2 : W2.cell? ⟨x1, 2, none⟩ = some (.int .i64 8) := hbl.cell 2
  have c3 : W2.cell? ⟨x1, 3, none⟩ = some (.int .i64 4) := hbl.cell 3
  have c4 : W2.cell? ⟨x1, 4, none⟩ = some (.int .i64 32) := hbl.cell 4
  have HBL := Lib.hid hbl
  have HB2 := Lib.hid hb2
  clear hbl hb2 hW2 hx1
  go_upto_region 3 with (go_at_call 7; refine (kl _).mono ?_; rintro x w3 ⟨rfl, hb3⟩; have bk := HBL.out.below hb3 HBL.out.lt; have e0 : w3.cell? ⟨x1, 0, none⟩ = some (.int .i64 2) := bk.cell 0; have e1 : w3.cell? ⟨x1, 1, none⟩ = some (.int .i64 10) := bk.cell 1; have e2 : w3.cell? ⟨x1, 2, none⟩ = some (.int .i64 8) := bk.cell 2; have e3 : w3.cell? ⟨x1, 3, none⟩ = some (.int .i64 4) := bk.cell 3; have e4 : w3.cell? ⟨x1, 4, none⟩ = some (.int .i64 32) := bk.cell 4; have HBL3 := Lib.hid bk; have B3 := Lib.hid (belowThen HB2.out hb3); clear hb3 bk c0 c1 c2 c3 c4)
  go_upto_region 5 with (first
    | (go_at_call 8; refine (kb _).mono ?_; rintro x w4 ⟨rfl, hb4⟩; have HBL4 := Lib.hid (HBL3.out.below hb4 HBL3.out.lt); have B4 := Lib.hid (belowThen B3.out hb4); clear hb4 e0 e1 e2 e3 e4)
    | (go_at_call 14; refine (kn _).mono ?_; rintro x w5 ⟨g, rfl, ho5⟩; have H5 := Lib.hid ho5; clear ho5))
  go_upto_region 6 with (first
    | (go_at_call 13; refine (ksh _).mono ?_; rintro x w6 ⟨rfl, hb6⟩; have H6 := Lib.hid (H5.out.then_ hb6); clear hb6)
    | (go_at_call 15; refine (kf _ _ _ H6.out).mono ?_; rintro x w7 ⟨rfl, ho7⟩; have H7 := Lib.hid ho7; clear ho7))
  go_upto_region 7 with (go_at_call 16; refine (kld _ _ _ _ H7.out).mono ?_; rintro x w8 ⟨rfl, ho8, hb8⟩; have H8 := Lib.hid ho8.bel; clear ho8 hb8)
  have hm := Blk.new w8 TLa #[.int .i64 2, .int .i64 10, .int .i64 8, .int .i64 4, .int .i64 32]
  have HM := Lib.hid hm
  have H9 := Lib.hid (belowNew H8.out (.cells #[.int .i64 2, .int .i64 10, .int .i64 8, .int .i64 4, .int .i64 32] TLa))
  clear hm
  go_wp2_with (first
    | (go_at_call 13; refine (ksh _).mono ?_; rintro x w10 ⟨rfl, hb10⟩; have HM10 := Lib.hid (HM.out.below hb10 HM.out.lt); have H10 := Lib.hid (belowThen H9.out hb10); clear hb10)
    | (go_at_call 9; refine (ks _).mono ?_; rintro x w11 ⟨rfl, hb11⟩; have bm := HM10.out.below hb11 HM10.out.lt; have hb := belowThen H10.out hb11; have bl := HBL4.out.below hb HBL4.out.lt; have m0 : w11.cell? ⟨w8.heap.size, 0, none⟩ = some (.int .i64 2) := bm.cell 0; have m1 : w11.cell? ⟨w8.heap.size, 1, none⟩ = some (.int .i64 10) := bm.cell 1; have m2 : w11.cell? ⟨w8.heap.size, 2, none⟩ = some (.int .i64 8) := bm.cell 2; have m3 : w11.cell? ⟨w8.heap.size, 3, none⟩ = some (.int .i64 4) := bm.cell 3; have m4 : w11.cell? ⟨w8.heap.size, 4, none⟩ = some (.int .i64 32) := bm.cell 4; have l0 : w11.cell? ⟨x1, 0, none⟩ = some (.int .i64 2) := bl.cell 0; have l1 : w11.cell? ⟨x1, 1, none⟩ = some (.int .i64 10) := bl.cell 1; have l2 : w11.cell? ⟨x1, 2, none⟩ = some (.int .i64 8) := bl.cell 2; have l3 : w11.cell? ⟨x1, 3, none⟩ = some (.int .i64 4) := bl.cell 3; have l4 : w11.cell? ⟨x1, 4, none⟩ = some (.int .i64 32) := bl.cell 4; have H11 := Lib.hid (belowThen B4.out hb); clear hb11 hb bm bl))
  exact end_ret (t := 0) (v := .bool true) (by kernel_rfl) rfl rfl ⟨rfl, H11.out⟩
end Go.Proofs.Ytacogpogplionaa.SU
