/- Part 4 of the texts that the proof stands on, joined: Bk11, Bk12, Bk13, Bk14, Bk15, BkIn, HeldMore. No condition. -/
import Derived.Test.YtcbhdggjcelmaaaGreatM3
import Derived.Deep.Strs
import Derived.Deep.RegionHeld3
/- Load of both sides: refused; of a nil disk; of the document's disk (printed by gen_bk11.py out of XBk7). No condition. -/
namespace Go.Proofs.YtcbhdggjcelmaaaGreat.BK
set_option maxRecDepth 100000
open Go.RowKit Go.Proofs.YtcbhdggjcelmaaaGreat.MI Go.Proofs.YtcbhdggjcelmaaaGreat.WI Go.Proofs.YtcbhdggjcelmaaaGreat.SM Go.Proofs.YtcbhdggjcelmaaaGreat.DK Go.Proofs.YtcbhdggjcelmaaaGreat.SU Go.Proofs.YtcbhdggjcelmaaaGreat.RD
set_option linter.unusedVariables false
set_option linter.unusedSimpArgs false
theorem rread2 {W : World} {B g : Nat} {R : Rk} (h : RdAt W B g R) (q : Int) (hq : 0 ≤ q ∧ q ≤ 35) (hR : R.room = 37) (hN : R.L.length ≤ 1000000) (hs : ∀ x ∈ R.L, x.d.size = 64) :
    Calls Tryz.prog 29 #[.pointer (some ⟨g, 0, none⟩), .int .i64 q, .int .i64 2] W fun e w' => e = .returned (.tuple #[.string (rreadT R.L q 2), .int .i64 0]) ∧ Below W.heap.size W w' :=
  rread_ok h q 2 (by omega) (by rw [hR]; omega) (by rw [hR]; omega) hN hs
section
variable {w0 W : World} {B g N : Nat} {D : Dk} {R : Rk}
set_option maxHeartbeats 4000000 in
theorem rload_any (h : RdAt W B g R) (n : Int) (hn : 0 ≤ n ∧ n < 10) (hR : R.room = 37) (hN : R.L.length ≤ 1000000) (hs : ∀ x ∈ R.L, x.d.size = 64) :
    Calls Tryz.prog 9 #[.pointer (some ⟨g, 0, none⟩), sagg sh0, .int .i64 n] W fun x w' => x = .returned (.tuple #[iagg (getR n (rreadT R.L (17 + 2 * n) 2)).1, .int .i64 (getR n (rreadT R.L (17 + 2 * n) 2)).2]) ∧ Below W.heap.size W w' := by
  have kb := fun W => rblock_ok n hn W
  have kr := fun W (h : RdAt W B g R) => rread2 h (17 + 2 * n) (by omega) hR hN hs
  have kg := fun W => rget_any n (rreadT R.L (17 + 2 * n) 2) W
  obtain ⟨T, hT⟩ : ∃ T, rreadT R.L (17 + 2 * n) 2 = T := ⟨_, rfl⟩
  rw [hT] at kr kg ⊢
  obtain ⟨X, hX⟩ : ∃ X, getR n T = X := ⟨_, rfl⟩
  rw [hX] at kg ⊢
  obtain ⟨⟨xb, xv, xd⟩, xe⟩ := X
  unfold iagg sagg sh0 at *
  dsimp only at kg ⊢
  obtain ⟨at_, hat⟩ : ∃ a, 17 + 2 * n = a := ⟨_, rfl⟩
  rw [hat] at kb kr
  have HH := Lib.hid h
  clear hT hX hat h hR hN hs
  have hl0 := Blk.new W TSh #[.int .i64 2, .int .i64 10, .int .i64 8, .int .i64 4, .int .i64 32]
  have hr1 := Blk.new (W.alloc (.cells #[.int .i64 2, .int .i64 10, .int .i64 8, .int .i64 4, .int .i64 32] TSh)) TIm #[.int .i64 0, .int .u64 0, .string ⟨#[]⟩]
  have hsz : (W.alloc (.cells #[.int .i64 2, .int .i64 10, .int .i64 8, .int .i64 4, .int .i64 32] TSh)).heap.size = W.heap.size + 1 := by simp
  have hb1 := belowNew (belowNew (belowSame W) (.cells #[.int .i64 2, .int .i64 10, .int .i64 8, .int .i64 4, .int .i64 32] TSh)) (.cells #[.int .i64 0, .int .u64 0, .string ⟨#[]⟩] TIm)
  have hl1 := hl0.below (belowNew (belowSame (W.alloc (.cells #[.int .i64 2, .int .i64 10, .int .i64 8, .int .i64 4, .int .i64 32] TSh))) (.cells #[.int .i64 0, .int .u64 0, .string ⟨#[]⟩] TIm)) hl0.lt
  rw [hsz] at hr1
  obtain ⟨W1, hW1⟩ : ∃ W1, (W.alloc (.cells #[.int .i64 2, .int .i64 10, .int .i64 8, .int .i64 4, .int .i64 32] TSh)).alloc (.cells #[.int .i64 0, .int .u64 0, .string ⟨#[]⟩] TIm) = W1 := ⟨_, rfl⟩
  rw [hW1] at hr1 hb1 hl1
  obtain ⟨r0, hr0⟩ : ∃ r, W.heap.size + 1 = r := ⟨_, rfl⟩
  obtain ⟨x0, hx0⟩ : ∃ x, W.heap.size = x := ⟨_, rfl⟩
  rw [hr0] at hr1
  rw [hx0] at hl1
  have c0 : W1.cell? ⟨x0, 0, none⟩ = some (.int .i64 2) := hl1.cell 0
  have c1 : W1.cell? ⟨x0, 1, none⟩ = some (.int .i64 10) := hl1.cell 1
  have c2 : W1.cell? ⟨x0, 2, none⟩ = some (.int .i64 8) := hl1.cell 2
  have c3 : W1.cell? ⟨x0, 3, none⟩ = some (.int .i64 4) := hl1.cell 3
  have c4 : W1.cell? ⟨x0, 4, none⟩ = some (.int .i64 32) := hl1.cell 4
  have HW1 := Lib.hid hW1
  have HR0 := Lib.hid hr0
  have HX0 := Lib.hid hx0
  have HBN := Lib.hid hr1
  have HB1 := Lib.hid hb1
  have HH1 := Lib.hid (HH.out.old hb1)
  clear hl0 hr1 hsz hb1 hl1 hW1 hr0 hx0
  go_enter Tryz.func9, Tryz.ntmps9
  go_upto_region 1 with fail
  rw [HW1.out]
  try rw [HR0.out]
  try rw [HX0.out]
  go_wp2_with (first
    | (go_at_call 25; refine (kb _).mono ?_; rintro x w2 ⟨rfl, hb2⟩; have H2 := Lib.hid (HH1.out.old hb2); have B2 := Lib.hid (belowThen HB1.out hb2); have R2 := Lib.hid (HBN.out.below hb2 HBN.out.lt); clear hb2)
    | (go_at_call 29; refine (kr _ H2.out).mono ?_; rintro x w3 ⟨rfl, hb3⟩; have B3 := Lib.hid (belowThen B2.out hb3); have R3 := Lib.hid (R2.out.below hb3 R2.out.lt); clear hb3)
    | (go_at_call 30; refine (kg _).mono ?_; rintro x w4 ⟨rfl, hb4⟩; have HO := Lib.hid HH.out; have HBE := Lib.hid (belowThen B3.out hb4); have br := R3.out.below hb4 R3.out.lt; have y0 : w4.cell? ⟨r0, 0, none⟩ = some (.int .i64 0) := br.cell 0; have f0 := br.frozen 0; have y1 : w4.cell? ⟨r0, 1, none⟩ = some (.int .u64 0) := br.cell 1; have f1 := br.frozen 1; have y2 : w4.cell? ⟨r0, 2, none⟩ = some (.string ⟨#[]⟩) := br.cell 2; have f2 := br.frozen 2; have HBR := Lib.hid br; clear hb4 br))
  have b4 := ((HBR.out.set_ 0 (.int .i64 xb)).set_ 1 (.int .u64 xv)).set_ 2 (.string xd)
  have hr0 : W.heap.size ≤ r0 := by have := HR0.out; omega
  have hA : Below W.heap.size W w4 := HBE.out
  have hE : Below W.heap.size W (((w4.setCell ⟨r0, 0, none⟩ (.int .i64 xb)).setCell ⟨r0, 1, none⟩ (.int .u64 xv)).setCell ⟨r0, 2, none⟩ (.string xd)) := ((hA.setCell (p := ⟨r0, 0, none⟩) hr0 (.int .i64 xb)).setCell (p := ⟨r0, 1, none⟩) hr0 (.int .u64 xv)).setCell (p := ⟨r0, 2, none⟩) hr0 (.string xd)
  have d0 : (((w4.setCell ⟨r0, 0, none⟩ (.int .i64 xb)).setCell ⟨r0, 1, none⟩ (.int .u64 xv)).setCell ⟨r0, 2, none⟩ (.string xd)).cell? ⟨r0, 0, none⟩ = some (.int .i64 xb) := b4.cell 0
  have d1 : (((w4.setCell ⟨r0, 0, none⟩ (.int .i64 xb)).setCell ⟨r0, 1, none⟩ (.int .u64 xv)).setCell ⟨r0, 2, none⟩ (.string xd)).cell? ⟨r0, 1, none⟩ = some (.int .u64 xv) := b4.cell 1
  have d2 : (((w4.setCell ⟨r0, 0, none⟩ (.int .i64 xb)).setCell ⟨r0, 1, none⟩ (.int .u64 xv)).setCell ⟨r0, 2, none⟩ (.string xd)).cell? ⟨r0, 2, none⟩ = some (.string xd) := b4.cell 2
  exact bodyPost_ret (v := .tuple #[.agg #[.int .i64 xb, .int .u64 xv, .string xd], .int .i64 xe]) (by simp [results, Tryz.results9, go_sem, d0, d1, d2]) rfl ⟨rfl, hE⟩
end
set_option maxHeartbeats 4000000 in
theorem bload_bad (p : Option Addr) (n : Int) (hn : ¬ (0 ≤ n ∧ n < 10)) (W : World) : Calls Tryz.prog 8 #[.pointer p, sagg sh0, .int .i64 n] W fun x w' => x = .returned (.tuple #[iagg im0, .int .i64 30]) ∧ Below W.heap.size W w' := by
  have kb := fun W => block_bad0 n hn W
  clear hn
  unfold iagg sagg sh0 at *
  have hl0 := Blk.new W TLa #[.int .i64 2, .int .i64 10, .int .i64 8, .int .i64 4, .int .i64 32]
  have hr1 := Blk.new (W.alloc (.cells #[.int .i64 2, .int .i64 10, .int .i64 8, .int .i64 4, .int .i64 32] TLa)) TIm #[.int .i64 0, .int .u64 0, .string ⟨#[]⟩]
  have hsz : (W.alloc (.cells #[.int .i64 2, .int .i64 10, .int .i64 8, .int .i64 4, .int .i64 32] TLa)).heap.size = W.heap.size + 1 := by simp
  have hb1 := belowNew (belowNew (belowSame W) (.cells #[.int .i64 2, .int .i64 10, .int .i64 8, .int .i64 4, .int .i64 32] TLa)) (.cells #[.int .i64 0, .int .u64 0, .string ⟨#[]⟩] TIm)
  have hl1 := hl0.below (belowNew (belowSame (W.alloc (.cells #[.int .i64 2, .int .i64 10, .int .i64 8, .int .i64 4, .int .i64 32] TLa))) (.cells #[.int .i64 0, .int .u64 0, .string ⟨#[]⟩] TIm)) hl0.lt
  rw [hsz] at hr1
  obtain ⟨W1, hW1⟩ : ∃ W1, (W.alloc (.cells #[.int .i64 2, .int .i64 10, .int .i64 8, .int .i64 4, .int .i64 32] TLa)).alloc (.cells #[.int .i64 0, .int .u64 0, .string ⟨#[]⟩] TIm) = W1 := ⟨_, rfl⟩
  rw [hW1] at hr1 hb1 hl1
  obtain ⟨r0, hr0⟩ : ∃ r, W.heap.size + 1 = r := ⟨_, rfl⟩
  obtain ⟨x0, hx0⟩ : ∃ x, W.heap.size = x := ⟨_, rfl⟩
  rw [hr0] at hr1
  rw [hx0] at hl1
  have c0 : W1.cell? ⟨x0, 0, none⟩ = some (.int .i64 2) := hl1.cell 0
  have c1 : W1.cell? ⟨x0, 1, none⟩ = some (.int .i64 10) := hl1.cell 1
  have c2 : W1.cell? ⟨x0, 2, none⟩ = some (.int .i64 8) := hl1.cell 2
  have c3 : W1.cell? ⟨x0, 3, none⟩ = some (.int .i64 4) := hl1.cell 3
  have c4 : W1.cell? ⟨x0, 4, none⟩ = some (.int .i64 32) := hl1.cell 4
  have HW1 := Lib.hid hW1
  have HR0 := Lib.hid hr0
  have HX0 := Lib.hid hx0
  have HBN := Lib.hid hr1
  have HB1 := Lib.hid hb1
  clear hl0 hr1 hsz hb1 hl1 hW1 hr0 hx0
  go_enter Tryz.func8, Tryz.ntmps8
  go_upto_region 1 with fail
  rw [HW1.out]
  try rw [HR0.out]
  try rw [HX0.out]
  go_wp2_with (go_at_call 22; refine (kb _).mono ?_; rintro x w2 ⟨rfl, hb2⟩; have HBE := Lib.hid (belowThen HB1.out hb2); have br := HBN.out.below hb2 HBN.out.lt; have y0 : w2.cell? ⟨r0, 0, none⟩ = some (.int .i64 0) := br.cell 0; have f0 := br.frozen 0; have y1 : w2.cell? ⟨r0, 1, none⟩ = some (.int .u64 0) := br.cell 1; have f1 := br.frozen 1; have y2 : w2.cell? ⟨r0, 2, none⟩ = some (.string ⟨#[]⟩) := br.cell 2; have f2 := br.frozen 2; have HBR := Lib.hid br; clear hb2 br)
  have b4 := ((HBR.out.set_ 0 (.int .i64 0)).set_ 1 (.int .u64 0)).set_ 2 (.string ⟨#[]⟩)
  have hr0 : W.heap.size ≤ r0 := by have := HR0.out; omega
  have hA : Below W.heap.size W w2 := HBE.out
  have hE : Below W.heap.size W (((w2.setCell ⟨r0, 0, none⟩ (.int .i64 0)).setCell ⟨r0, 1, none⟩ (.int .u64 0)).setCell ⟨r0, 2, none⟩ (.string ⟨#[]⟩)) := ((hA.setCell (p := ⟨r0, 0, none⟩) hr0 (.int .i64 0)).setCell (p := ⟨r0, 1, none⟩) hr0 (.int .u64 0)).setCell (p := ⟨r0, 2, none⟩) hr0 (.string ⟨#[]⟩)
  have d0 : (((w2.setCell ⟨r0, 0, none⟩ (.int .i64 0)).setCell ⟨r0, 1, none⟩ (.int .u64 0)).setCell ⟨r0, 2, none⟩ (.string ⟨#[]⟩)).cell? ⟨r0, 0, none⟩ = some (.int .i64 0) := b4.cell 0
  have d1 : (((w2.setCell ⟨r0, 0, none⟩ (.int .i64 0)).setCell ⟨r0, 1, none⟩ (.int .u64 0)).setCell ⟨r0, 2, none⟩ (.string ⟨#[]⟩)).cell? ⟨r0, 1, none⟩ = some (.int .u64 0) := b4.cell 1
  have d2 : (((w2.setCell ⟨r0, 0, none⟩ (.int .i64 0)).setCell ⟨r0, 1, none⟩ (.int .u64 0)).setCell ⟨r0, 2, none⟩ (.string ⟨#[]⟩)).cell? ⟨r0, 2, none⟩ = some (.string ⟨#[]⟩) := b4.cell 2
  exact bodyPost_ret (v := .tuple #[.agg #[.int .i64 0, .int .u64 0, .string ⟨#[]⟩], .int .i64 30]) (by simp [results, Tryz.results8, go_sem, d0, d1, d2]) rfl ⟨rfl, hE⟩
set_option maxHeartbeats 4000000 in
theorem rload_bad (p : Option Addr) (n : Int) (hn : ¬ (0 ≤ n ∧ n < 10)) (W : World) : Calls Tryz.prog 9 #[.pointer p, sagg sh0, .int .i64 n] W fun x w' => x = .returned (.tuple #[iagg im0, .int .i64 30]) ∧ Below W.heap.size W w' := by
  have kb := fun W => rblock_bad0 n hn W
  clear hn
  unfold iagg sagg sh0 at *
  have hl0 := Blk.new W TSh #[.int .i64 2, .int .i64 10, .int .i64 8, .int .i64 4, .int .i64 32]
  have hr1 := Blk.new (W.alloc (.cells #[.int .i64 2, .int .i64 10, .int .i64 8, .int .i64 4, .int .i64 32] TSh)) TIm #[.int .i64 0, .int .u64 0, .string ⟨#[]⟩]
  have hsz : (W.alloc (.cells #[.int .i64 2, .int .i64 10, .int .i64 8, .int .i64 4, .int .i64 32] TSh)).heap.size = W.heap.size + 1 := by simp
  have hb1 := belowNew (belowNew (belowSame W) (.cells #[.int .i64 2, .int .i64 10, .int .i64 8, .int .i64 4, .int .i64 32] TSh)) (.cells #[.int .i64 0, .int .u64 0, .string ⟨#[]⟩] TIm)
  have hl1 := hl0.below (belowNew (belowSame (W.alloc (.cells #[.int .i64 2, .int .i64 10, .int .i64 8, .int .i64 4, .int .i64 32] TSh))) (.cells #[.int .i64 0, .int .u64 0, .string ⟨#[]⟩] TIm)) hl0.lt
  rw [hsz] at hr1
  obtain ⟨W1, hW1⟩ : ∃ W1, (W.alloc (.cells #[.int .i64 2, .int .i64 10, .int .i64 8, .int .i64 4, .int .i64 32] TSh)).alloc (.cells #[.int .i64 0, .int .u64 0, .string ⟨#[]⟩] TIm) = W1 := ⟨_, rfl⟩
  rw [hW1] at hr1 hb1 hl1
  obtain ⟨r0, hr0⟩ : ∃ r, W.heap.size + 1 = r := ⟨_, rfl⟩
  obtain ⟨x0, hx0⟩ : ∃ x, W.heap.size = x := ⟨_, rfl⟩
  rw [hr0] at hr1
  rw [hx0] at hl1
  have c0 : W1.cell? ⟨x0, 0, none⟩ = some (.int .i64 2) := hl1.cell 0
  have c1 : W1.cell? ⟨x0, 1, none⟩ = some (.int .i64 10) := hl1.cell 1
  have c2 : W1.cell? ⟨x0, 2, none⟩ = some (.int .i64 8) := hl1.cell 2
  have c3 : W1.cell? ⟨x0, 3, none⟩ = some (.int .i64 4) := hl1.cell 3
  have c4 : W1.cell? ⟨x0, 4, none⟩ = some (.int .i64 32) := hl1.cell 4
  have HW1 := Lib.hid hW1
  have HR0 := Lib.hid hr0
  have HX0 := Lib.hid hx0
  have HBN := Lib.hid hr1
  have HB1 := Lib.hid hb1
  clear hl0 hr1 hsz hb1 hl1 hW1 hr0 hx0
  go_enter Tryz.func9, Tryz.ntmps9
  go_upto_region 1 with fail
  rw [HW1.out]
  try rw [HR0.out]
  try rw [HX0.out]
  go_wp2_with (go_at_call 25; refine (kb _).mono ?_; rintro x w2 ⟨rfl, hb2⟩; have HBE := Lib.hid (belowThen HB1.out hb2); have br := HBN.out.below hb2 HBN.out.lt; have y0 : w2.cell? ⟨r0, 0, none⟩ = some (.int .i64 0) := br.cell 0; have f0 := br.frozen 0; have y1 : w2.cell? ⟨r0, 1, none⟩ = some (.int .u64 0) := br.cell 1; have f1 := br.frozen 1; have y2 : w2.cell? ⟨r0, 2, none⟩ = some (.string ⟨#[]⟩) := br.cell 2; have f2 := br.frozen 2; have HBR := Lib.hid br; clear hb2 br)
  have b4 := ((HBR.out.set_ 0 (.int .i64 0)).set_ 1 (.int .u64 0)).set_ 2 (.string ⟨#[]⟩)
  have hr0 : W.heap.size ≤ r0 := by have := HR0.out; omega
  have hA : Below W.heap.size W w2 := HBE.out
  have hE : Below W.heap.size W (((w2.setCell ⟨r0, 0, none⟩ (.int .i64 0)).setCell ⟨r0, 1, none⟩ (.int .u64 0)).setCell ⟨r0, 2, none⟩ (.string ⟨#[]⟩)) := ((hA.setCell (p := ⟨r0, 0, none⟩) hr0 (.int .i64 0)).setCell (p := ⟨r0, 1, none⟩) hr0 (.int .u64 0)).setCell (p := ⟨r0, 2, none⟩) hr0 (.string ⟨#[]⟩)
  have d0 : (((w2.setCell ⟨r0, 0, none⟩ (.int .i64 0)).setCell ⟨r0, 1, none⟩ (.int .u64 0)).setCell ⟨r0, 2, none⟩ (.string ⟨#[]⟩)).cell? ⟨r0, 0, none⟩ = some (.int .i64 0) := b4.cell 0
  have d1 : (((w2.setCell ⟨r0, 0, none⟩ (.int .i64 0)).setCell ⟨r0, 1, none⟩ (.int .u64 0)).setCell ⟨r0, 2, none⟩ (.string ⟨#[]⟩)).cell? ⟨r0, 1, none⟩ = some (.int .u64 0) := b4.cell 1
  have d2 : (((w2.setCell ⟨r0, 0, none⟩ (.int .i64 0)).setCell ⟨r0, 1, none⟩ (.int .u64 0)).setCell ⟨r0, 2, none⟩ (.string ⟨#[]⟩)).cell? ⟨r0, 2, none⟩ = some (.string ⟨#[]⟩) := b4.cell 2
  exact bodyPost_ret (v := .tuple #[.agg #[.int .i64 0, .int .u64 0, .string ⟨#[]⟩], .int .i64 30]) (by simp [results, Tryz.results9, go_sem, d0, d1, d2]) rfl ⟨rfl, hE⟩
set_option maxHeartbeats 4000000 in
theorem bload_nil (W : World) : Calls Tryz.prog 8 #[.pointer none, sagg sh0, .int .i64 0] W fun x w' => x = .returned (.tuple #[iagg im0, .int .i64 14]) ∧ Below W.heap.size W w' := by
  have kb : ∀ W : World, Calls Tryz.prog 22 #[sagg sh0, .int .i64 0] W fun e w' => e = .returned (.tuple #[.int .i64 17, .int .i64 0]) ∧ Below W.heap.size W w' := fun W => block_ok sh0 good0 0 (by decide) W
  have kr := fun W => read_nil 17 2 W
  unfold iagg sagg sh0 at *
  have hl0 := Blk.new W TLa #[.int .i64 2, .int .i64 10, .int .i64 8, .int .i64 4, .int .i64 32]
  have hr1 := Blk.new (W.alloc (.cells #[.int .i64 2, .int .i64 10, .int .i64 8, .int .i64 4, .int .i64 32] TLa)) TIm #[.int .i64 0, .int .u64 0, .string ⟨#[]⟩]
  have hsz : (W.alloc (.cells #[.int .i64 2, .int .i64 10, .int .i64 8, .int .i64 4, .int .i64 32] TLa)).heap.size = W.heap.size + 1 := by simp
  have hb1 := belowNew (belowNew (belowSame W) (.cells #[.int .i64 2, .int .i64 10, .int .i64 8, .int .i64 4, .int .i64 32] TLa)) (.cells #[.int .i64 0, .int .u64 0, .string ⟨#[]⟩] TIm)
  have hl1 := hl0.below (belowNew (belowSame (W.alloc (.cells #[.int .i64 2, .int .i64 10, .int .i64 8, .int .i64 4, .int .i64 32] TLa))) (.cells #[.int .i64 0, .int .u64 0, .string ⟨#[]⟩] TIm)) hl0.lt
  rw [hsz] at hr1
  obtain ⟨W1, hW1⟩ : ∃ W1, (W.alloc (.cells #[.int .i64 2, .int .i64 10, .int .i64 8, .int .i64 4, .int .i64 32] TLa)).alloc (.cells #[.int .i64 0, .int .u64 0, .string ⟨#[]⟩] TIm) = W1 := ⟨_, rfl⟩
  rw [hW1] at hr1 hb1 hl1
  obtain ⟨r0, hr0⟩ : ∃ r, W.heap.size + 1 = r := ⟨_, rfl⟩
  obtain ⟨x0, hx0⟩ : ∃ x, W.heap.size = x := ⟨_, rfl⟩
  rw [hr0] at hr1
  rw [hx0] at hl1
  have c0 : W1.cell? ⟨x0, 0, none⟩ = some (.int .i64 2) := hl1.cell 0
  have c1 : W1.cell? ⟨x0, 1, none⟩ = some (.int .i64 10) := hl1.cell 1
  have c2 : W1.cell? ⟨x0, 2, none⟩ = some (.int .i64 8) := hl1.cell 2
  have c3 : W1.cell? ⟨x0, 3, none⟩ = some (.int .i64 4) := hl1.cell 3
  have c4 : W1.cell? ⟨x0, 4, none⟩ = some (.int .i64 32) := hl1.cell 4
  have HW1 := Lib.hid hW1
  have HR0 := Lib.hid hr0
  have HX0 := Lib.hid hx0
  have HBN := Lib.hid hr1
  have HB1 := Lib.hid hb1
  clear hl0 hr1 hsz hb1 hl1 hW1 hr0 hx0
  go_enter Tryz.func8, Tryz.ntmps8
  go_upto_region 1 with fail
  rw [HW1.out]
  try rw [HR0.out]
  try rw [HX0.out]
  go_wp2_with (first
    | (go_at_call 22; refine (kb _).mono ?_; rintro x w2 ⟨rfl, hb2⟩; have HBE := Lib.hid (belowThen HB1.out hb2); have R2 := Lib.hid (HBN.out.below hb2 HBN.out.lt); clear hb2)
    | (go_at_call 27; refine (kr _).mono ?_; rintro x w3 ⟨rfl, rfl⟩; have br := R2.out; have y0 : w3.cell? ⟨r0, 0, none⟩ = some (.int .i64 0) := br.cell 0; have f0 := br.frozen 0; have y1 : w3.cell? ⟨r0, 1, none⟩ = some (.int .u64 0) := br.cell 1; have f1 := br.frozen 1; have y2 : w3.cell? ⟨r0, 2, none⟩ = some (.string ⟨#[]⟩) := br.cell 2; have f2 := br.frozen 2; have HBR := Lib.hid br; clear br))
  have b4 := ((HBR.out.set_ 0 (.int .i64 0)).set_ 1 (.int .u64 0)).set_ 2 (.string ⟨#[]⟩)
  have hr0 : W.heap.size ≤ r0 := by have := HR0.out; omega
  have hA : Below W.heap.size W w3 := HBE.out
  have hE : Below W.heap.size W (((w3.setCell ⟨r0, 0, none⟩ (.int .i64 0)).setCell ⟨r0, 1, none⟩ (.int .u64 0)).setCell ⟨r0, 2, none⟩ (.string ⟨#[]⟩)) := ((hA.setCell (p := ⟨r0, 0, none⟩) hr0 (.int .i64 0)).setCell (p := ⟨r0, 1, none⟩) hr0 (.int .u64 0)).setCell (p := ⟨r0, 2, none⟩) hr0 (.string ⟨#[]⟩)
  have d0 : (((w3.setCell ⟨r0, 0, none⟩ (.int .i64 0)).setCell ⟨r0, 1, none⟩ (.int .u64 0)).setCell ⟨r0, 2, none⟩ (.string ⟨#[]⟩)).cell? ⟨r0, 0, none⟩ = some (.int .i64 0) := b4.cell 0
  have d1 : (((w3.setCell ⟨r0, 0, none⟩ (.int .i64 0)).setCell ⟨r0, 1, none⟩ (.int .u64 0)).setCell ⟨r0, 2, none⟩ (.string ⟨#[]⟩)).cell? ⟨r0, 1, none⟩ = some (.int .u64 0) := b4.cell 1
  have d2 : (((w3.setCell ⟨r0, 0, none⟩ (.int .i64 0)).setCell ⟨r0, 1, none⟩ (.int .u64 0)).setCell ⟨r0, 2, none⟩ (.string ⟨#[]⟩)).cell? ⟨r0, 2, none⟩ = some (.string ⟨#[]⟩) := b4.cell 2
  exact bodyPost_ret (v := .tuple #[.agg #[.int .i64 0, .int .u64 0, .string ⟨#[]⟩], .int .i64 14]) (by simp [results, Tryz.results8, go_sem, d0, d1, d2]) rfl ⟨rfl, hE⟩
end Go.Proofs.YtcbhdggjcelmaaaGreat.BK

/- Store of both sides, each of its ends (printed by gen_bk12.py out of XBk7). No condition. -/
namespace Go.Proofs.YtcbhdggjcelmaaaGreat.BK
set_option maxRecDepth 100000
open Go.RowKit Go.Proofs.YtcbhdggjcelmaaaGreat.MI Go.Proofs.YtcbhdggjcelmaaaGreat.WI Go.Proofs.YtcbhdggjcelmaaaGreat.SM Go.Proofs.YtcbhdggjcelmaaaGreat.DK Go.Proofs.YtcbhdggjcelmaaaGreat.SU Go.Proofs.YtcbhdggjcelmaaaGreat.RD
set_option linter.unusedVariables false
set_option linter.unusedSimpArgs false
theorem _root_.Go.Proofs.YtcbhdggjcelmaaaGreat.RD.RdS.old {W W' : World} {B r : Nat} {S : Nat → Prop} {R : Rk} (h : RdS W B r S R) (hb : Below W.heap.size W W') : RdS W' B r S R := by
  obtain ⟨a, c, h1, h2, h3, h4, h5⟩ := h
  exact ⟨a, c, h1.keeps (Keeps.of_below hb (fun _ => False)) id, own_keeps h2 (Keeps.of_below hb (fun _ => False)) (fun _ _ h => h), h3, h4, h5⟩
section
variable {w0 W : World} {B r N : Nat} {D : Dk} {R : Rk}
set_option maxHeartbeats 4000000 in
theorem bstore_bad (p : Option Addr) (x : Im) (n e : Int) (hx : ¬ (0 ≤ x.b ∧ x.b < 10)) :
    Calls Tryz.prog 6 #[.pointer p, sagg sh0, .int .i64 n, .int .u64 e, iagg x] W fun z w' => z = .returned (.int .i64 30) ∧ Below W.heap.size W w' := by
  have kb := fun W => block_bad0 x.b hx W
  obtain ⟨xb, xv, xd⟩ := x
  clear hx
  unfold iagg sagg sh0 at *
  dsimp only at *
  have hl0 := Blk.new W TLa #[.int .i64 2, .int .i64 10, .int .i64 8, .int .i64 4, .int .i64 32]
  have hi1 := Blk.new (W.alloc (.cells #[.int .i64 2, .int .i64 10, .int .i64 8, .int .i64 4, .int .i64 32] TLa)) TIm #[.int .i64 xb, .int .u64 xv, .string xd]
  have hsz : (W.alloc (.cells #[.int .i64 2, .int .i64 10, .int .i64 8, .int .i64 4, .int .i64 32] TLa)).heap.size = W.heap.size + 1 := by simp
  have hb1 := belowNew (belowNew (belowSame W) (.cells #[.int .i64 2, .int .i64 10, .int .i64 8, .int .i64 4, .int .i64 32] TLa)) (.cells #[.int .i64 xb, .int .u64 xv, .string xd] TIm)
  have hl1 := hl0.below (belowNew (belowSame (W.alloc (.cells #[.int .i64 2, .int .i64 10, .int .i64 8, .int .i64 4, .int .i64 32] TLa))) (.cells #[.int .i64 xb, .int .u64 xv, .string xd] TIm)) hl0.lt
  rw [hsz] at hi1
  obtain ⟨W1, hW1⟩ : ∃ W1, (W.alloc (.cells #[.int .i64 2, .int .i64 10, .int .i64 8, .int .i64 4, .int .i64 32] TLa)).alloc (.cells #[.int .i64 xb, .int .u64 xv, .string xd] TIm) = W1 := ⟨_, rfl⟩
  rw [hW1] at hi1 hb1 hl1
  obtain ⟨r0, hr0⟩ : ∃ r, W.heap.size + 1 = r := ⟨_, rfl⟩
  obtain ⟨x0, hx0⟩ : ∃ x, W.heap.size = x := ⟨_, rfl⟩
  rw [hr0] at hi1
  rw [hx0] at hl1
  have c0 : W1.cell? ⟨x0, 0, none⟩ = some (.int .i64 2) := hl1.cell 0
  have c1 : W1.cell? ⟨x0, 1, none⟩ = some (.int .i64 10) := hl1.cell 1
  have c2 : W1.cell? ⟨x0, 2, none⟩ = some (.int .i64 8) := hl1.cell 2
  have c3 : W1.cell? ⟨x0, 3, none⟩ = some (.int .i64 4) := hl1.cell 3
  have c4 : W1.cell? ⟨x0, 4, none⟩ = some (.int .i64 32) := hl1.cell 4
  have i0 : W1.cell? ⟨r0, 0, none⟩ = some (.int .i64 xb) := hi1.cell 0
  have HW1 := Lib.hid hW1
  have HR0 := Lib.hid hr0
  have HX0 := Lib.hid hx0
  have HBN := Lib.hid hi1
  have BB1 := Lib.hid hb1
  clear hl0 hi1 hsz hb1 hl1 hW1 hr0 hx0
  go_enter Tryz.func6, Tryz.ntmps6
  go_upto_region 1 with fail
  rw [HW1.out]
  try rw [HR0.out]
  try rw [HX0.out]
  go_wp2_with (first
    | (go_at_call 22; refine (kb _).mono ?_; rintro x w2 ⟨rfl, hb2⟩; have B2 := Lib.hid (belowThen BB1.out hb2); have bi := HBN.out.below hb2 HBN.out.lt; have j0 : w2.cell? ⟨r0, 0, none⟩ = some (.int .i64 xb) := bi.cell 0; have j1 : w2.cell? ⟨r0, 1, none⟩ = some (.int .u64 xv) := bi.cell 1; have j2 : w2.cell? ⟨r0, 2, none⟩ = some (.string xd) := bi.cell 2; clear hb2 bi))
  exact end_ret (t := 10) (v := .int .i64 30) (by kernel_rfl) rfl rfl ⟨rfl, B2.out⟩
set_option maxHeartbeats 4000000 in
theorem bstore_put (p : Option Addr) (x : Im) (n e : Int) (hx : 0 ≤ x.b ∧ x.b < 10) (ho : ImOk x) (hr : rightB x = false) :
    Calls Tryz.prog 6 #[.pointer p, sagg sh0, .int .i64 n, .int .u64 e, iagg x] W fun z w' => z = .returned (.int .i64 1) ∧ Below W.heap.size W w' := by
  have kb : ∀ W : World, Calls Tryz.prog 22 #[sagg sh0, .int .i64 x.b] W fun e w' => e = .returned (.tuple #[.int .i64 (17 + 2 * x.b), .int .i64 0]) ∧ Below W.heap.size W w' := fun W => by
    have := block_ok sh0 good0 x.b hx W
    rwa [blockI0] at this
  have kp := fun W => put_bad x ho hr W
  obtain ⟨xb, xv, xd⟩ := x
  dsimp only at kb
  obtain ⟨at_, hat⟩ : ∃ a, 17 + 2 * xb = a := ⟨_, rfl⟩
  rw [hat] at kb
  clear hat hx ho hr
  unfold iagg sagg sh0 at *
  dsimp only at *
  have hl0 := Blk.new W TLa #[.int .i64 2, .int .i64 10, .int .i64 8, .int .i64 4, .int .i64 32]
  have hi1 := Blk.new (W.alloc (.cells #[.int .i64 2, .int .i64 10, .int .i64 8, .int .i64 4, .int .i64 32] TLa)) TIm #[.int .i64 xb, .int .u64 xv, .string xd]
  have hsz : (W.alloc (.cells #[.int .i64 2, .int .i64 10, .int .i64 8, .int .i64 4, .int .i64 32] TLa)).heap.size = W.heap.size + 1 := by simp
  have hb1 := belowNew (belowNew (belowSame W) (.cells #[.int .i64 2, .int .i64 10, .int .i64 8, .int .i64 4, .int .i64 32] TLa)) (.cells #[.int .i64 xb, .int .u64 xv, .string xd] TIm)
  have hl1 := hl0.below (belowNew (belowSame (W.alloc (.cells #[.int .i64 2, .int .i64 10, .int .i64 8, .int .i64 4, .int .i64 32] TLa))) (.cells #[.int .i64 xb, .int .u64 xv, .string xd] TIm)) hl0.lt
  rw [hsz] at hi1
  obtain ⟨W1, hW1⟩ : ∃ W1, (W.alloc (.cells #[.int .i64 2, .int .i64 10, .int .i64 8, .int .i64 4, .int .i64 32] TLa)).alloc (.cells #[.int .i64 xb, .int .u64 xv, .string xd] TIm) = W1 := ⟨_, rfl⟩
  rw [hW1] at hi1 hb1 hl1
  obtain ⟨r0, hr0⟩ : ∃ r, W.heap.size + 1 = r := ⟨_, rfl⟩
  obtain ⟨x0, hx0⟩ : ∃ x, W.heap.size = x := ⟨_, rfl⟩
  rw [hr0] at hi1
  rw [hx0] at hl1
  have c0 : W1.cell? ⟨x0, 0, none⟩ = some (.int .i64 2) := hl1.cell 0
  have c1 : W1.cell? ⟨x0, 1, none⟩ = some (.int .i64 10) := hl1.cell 1
  have c2 : W1.cell? ⟨x0, 2, none⟩ = some (.int .i64 8) := hl1.cell 2
  have c3 : W1.cell? ⟨x0, 3, none⟩ = some (.int .i64 4) := hl1.cell 3
  have c4 : W1.cell? ⟨x0, 4, none⟩ = some (.int .i64 32) := hl1.cell 4
  have i0 : W1.cell? ⟨r0, 0, none⟩ = some (.int .i64 xb) := hi1.cell 0
  have HW1 := Lib.hid hW1
  have HR0 := Lib.hid hr0
  have HX0 := Lib.hid hx0
  have HBN := Lib.hid hi1
  have BB1 := Lib.hid hb1
  clear hl0 hi1 hsz hb1 hl1 hW1 hr0 hx0
  go_enter Tryz.func6, Tryz.ntmps6
  go_upto_region 1 with fail
  rw [HW1.out]
  try rw [HR0.out]
  try rw [HX0.out]
  go_wp2_with (first
    | (go_at_call 22; refine (kb _).mono ?_; rintro x w2 ⟨rfl, hb2⟩; have B2 := Lib.hid (belowThen BB1.out hb2); have bi := HBN.out.below hb2 HBN.out.lt; have j0 : w2.cell? ⟨r0, 0, none⟩ = some (.int .i64 xb) := bi.cell 0; have j1 : w2.cell? ⟨r0, 1, none⟩ = some (.int .u64 xv) := bi.cell 1; have j2 : w2.cell? ⟨r0, 2, none⟩ = some (.string xd) := bi.cell 2; clear hb2 bi)
    | (go_at_call 23; refine (kp _).mono ?_; rintro x w3 ⟨rfl, hb3⟩; have B3 := Lib.hid (belowThen B2.out hb3); clear hb3))
  exact end_ret (t := 10) (v := .int .i64 1) (by kernel_rfl) rfl rfl ⟨rfl, B3.out⟩
set_option maxHeartbeats 4000000 in
theorem rstore_bad (p : Option Addr) (x : Im) (n e : Int) (hx : ¬ (0 ≤ x.b ∧ x.b < 10)) :
    Calls Tryz.prog 7 #[.pointer p, sagg sh0, .int .i64 n, .int .u64 e, iagg x] W fun z w' => z = .returned (.int .i64 30) ∧ Below W.heap.size W w' := by
  have kb := fun W => rblock_bad0 x.b hx W
  obtain ⟨xb, xv, xd⟩ := x
  clear hx
  unfold iagg sagg sh0 at *
  dsimp only at *
  have hl0 := Blk.new W TSh #[.int .i64 2, .int .i64 10, .int .i64 8, .int .i64 4, .int .i64 32]
  have hi1 := Blk.new (W.alloc (.cells #[.int .i64 2, .int .i64 10, .int .i64 8, .int .i64 4, .int .i64 32] TSh)) TIm #[.int .i64 xb, .int .u64 xv, .string xd]
  have hsz : (W.alloc (.cells #[.int .i64 2, .int .i64 10, .int .i64 8, .int .i64 4, .int .i64 32] TSh)).heap.size = W.heap.size + 1 := by simp
  have hb1 := belowNew (belowNew (belowSame W) (.cells #[.int .i64 2, .int .i64 10, .int .i64 8, .int .i64 4, .int .i64 32] TSh)) (.cells #[.int .i64 xb, .int .u64 xv, .string xd] TIm)
  have hl1 := hl0.below (belowNew (belowSame (W.alloc (.cells #[.int .i64 2, .int .i64 10, .int .i64 8, .int .i64 4, .int .i64 32] TSh))) (.cells #[.int .i64 xb, .int .u64 xv, .string xd] TIm)) hl0.lt
  rw [hsz] at hi1
  obtain ⟨W1, hW1⟩ : ∃ W1, (W.alloc (.cells #[.int .i64 2, .int .i64 10, .int .i64 8, .int .i64 4, .int .i64 32] TSh)).alloc (.cells #[.int .i64 xb, .int .u64 xv, .string xd] TIm) = W1 := ⟨_, rfl⟩
  rw [hW1] at hi1 hb1 hl1
  obtain ⟨r0, hr0⟩ : ∃ r, W.heap.size + 1 = r := ⟨_, rfl⟩
  obtain ⟨x0, hx0⟩ : ∃ x, W.heap.size = x := ⟨_, rfl⟩
  rw [hr0] at hi1
  rw [hx0] at hl1
  have c0 : W1.cell? ⟨x0, 0, none⟩ = some (.int .i64 2) := hl1.cell 0
  have c1 : W1.cell? ⟨x0, 1, none⟩ = some (.int .i64 10) := hl1.cell 1
  have c2 : W1.cell? ⟨x0, 2, none⟩ = some (.int .i64 8) := hl1.cell 2
  have c3 : W1.cell? ⟨x0, 3, none⟩ = some (.int .i64 4) := hl1.cell 3
  have c4 : W1.cell? ⟨x0, 4, none⟩ = some (.int .i64 32) := hl1.cell 4
  have i0 : W1.cell? ⟨r0, 0, none⟩ = some (.int .i64 xb) := hi1.cell 0
  have HW1 := Lib.hid hW1
  have HR0 := Lib.hid hr0
  have HX0 := Lib.hid hx0
  have HBN := Lib.hid hi1
  have BB1 := Lib.hid hb1
  clear hl0 hi1 hsz hb1 hl1 hW1 hr0 hx0
  go_enter Tryz.func7, Tryz.ntmps7
  go_upto_region 1 with fail
  rw [HW1.out]
  try rw [HR0.out]
  try rw [HX0.out]
  go_wp2_with (first
    | (go_at_call 25; refine (kb _).mono ?_; rintro x w2 ⟨rfl, hb2⟩; have B2 := Lib.hid (belowThen BB1.out hb2); have bi := HBN.out.below hb2 HBN.out.lt; have j0 : w2.cell? ⟨r0, 0, none⟩ = some (.int .i64 xb) := bi.cell 0; have j1 : w2.cell? ⟨r0, 1, none⟩ = some (.int .u64 xv) := bi.cell 1; have j2 : w2.cell? ⟨r0, 2, none⟩ = some (.string xd) := bi.cell 2; clear hb2 bi))
  exact end_ret (t := 10) (v := .int .i64 30) (by kernel_rfl) rfl rfl ⟨rfl, B2.out⟩
set_option maxHeartbeats 4000000 in
theorem rstore_put (p : Option Addr) (x : Im) (n e : Int) (hx : 0 ≤ x.b ∧ x.b < 10) (ho : ImOk x) (hr : rightB x = false) :
    Calls Tryz.prog 7 #[.pointer p, sagg sh0, .int .i64 n, .int .u64 e, iagg x] W fun z w' => z = .returned (.int .i64 1) ∧ Below W.heap.size W w' := by
  have kb : ∀ W : World, Calls Tryz.prog 25 #[sagg sh0, .int .i64 x.b] W fun e w' => e = .returned (.tuple #[.int .i64 (17 + 2 * x.b), .int .i64 0]) ∧ Below W.heap.size W w' := fun W => by
    exact rblock_ok x.b hx W
  have kp := fun W => rputb_bad x ho hr W
  obtain ⟨xb, xv, xd⟩ := x
  dsimp only at kb
  obtain ⟨at_, hat⟩ : ∃ a, 17 + 2 * xb = a := ⟨_, rfl⟩
  rw [hat] at kb
  clear hat hx ho hr
  unfold iagg sagg sh0 at *
  dsimp only at *
  have hl0 := Blk.new W TSh #[.int .i64 2, .int .i64 10, .int .i64 8, .int .i64 4, .int .i64 32]
  have hi1 := Blk.new (W.alloc (.cells #[.int .i64 2, .int .i64 10, .int .i64 8, .int .i64 4, .int .i64 32] TSh)) TIm #[.int .i64 xb, .int .u64 xv, .string xd]
  have hsz : (W.alloc (.cells #[.int .i64 2, .int .i64 10, .int .i64 8, .int .i64 4, .int .i64 32] TSh)).heap.size = W.heap.size + 1 := by simp
  have hb1 := belowNew (belowNew (belowSame W) (.cells #[.int .i64 2, .int .i64 10, .int .i64 8, .int .i64 4, .int .i64 32] TSh)) (.cells #[.int .i64 xb, .int .u64 xv, .string xd] TIm)
  have hl1 := hl0.below (belowNew (belowSame (W.alloc (.cells #[.int .i64 2, .int .i64 10, .int .i64 8, .int .i64 4, .int .i64 32] TSh))) (.cells #[.int .i64 xb, .int .u64 xv, .string xd] TIm)) hl0.lt
  rw [hsz] at hi1
  obtain ⟨W1, hW1⟩ : ∃ W1, (W.alloc (.cells #[.int .i64 2, .int .i64 10, .int .i64 8, .int .i64 4, .int .i64 32] TSh)).alloc (.cells #[.int .i64 xb, .int .u64 xv, .string xd] TIm) = W1 := ⟨_, rfl⟩
  rw [hW1] at hi1 hb1 hl1
  obtain ⟨r0, hr0⟩ : ∃ r, W.heap.size + 1 = r := ⟨_, rfl⟩
  obtain ⟨x0, hx0⟩ : ∃ x, W.heap.size = x := ⟨_, rfl⟩
  rw [hr0] at hi1
  rw [hx0] at hl1
  have c0 : W1.cell? ⟨x0, 0, none⟩ = some (.int .i64 2) := hl1.cell 0
  have c1 : W1.cell? ⟨x0, 1, none⟩ = some (.int .i64 10) := hl1.cell 1
  have c2 : W1.cell? ⟨x0, 2, none⟩ = some (.int .i64 8) := hl1.cell 2
  have c3 : W1.cell? ⟨x0, 3, none⟩ = some (.int .i64 4) := hl1.cell 3
  have c4 : W1.cell? ⟨x0, 4, none⟩ = some (.int .i64 32) := hl1.cell 4
  have i0 : W1.cell? ⟨r0, 0, none⟩ = some (.int .i64 xb) := hi1.cell 0
  have HW1 := Lib.hid hW1
  have HR0 := Lib.hid hr0
  have HX0 := Lib.hid hx0
  have HBN := Lib.hid hi1
  have BB1 := Lib.hid hb1
  clear hl0 hi1 hsz hb1 hl1 hW1 hr0 hx0
  go_enter Tryz.func7, Tryz.ntmps7
  go_upto_region 1 with fail
  rw [HW1.out]
  try rw [HR0.out]
  try rw [HX0.out]
  go_wp2_with (first
    | (go_at_call 25; refine (kb _).mono ?_; rintro x w2 ⟨rfl, hb2⟩; have B2 := Lib.hid (belowThen BB1.out hb2); have bi := HBN.out.below hb2 HBN.out.lt; have j0 : w2.cell? ⟨r0, 0, none⟩ = some (.int .i64 xb) := bi.cell 0; have j1 : w2.cell? ⟨r0, 1, none⟩ = some (.int .u64 xv) := bi.cell 1; have j2 : w2.cell? ⟨r0, 2, none⟩ = some (.string xd) := bi.cell 2; clear hb2 bi)
    | (go_at_call 26; refine (kp _).mono ?_; rintro x w3 ⟨rfl, hb3⟩; have B3 := Lib.hid (belowThen B2.out hb3); clear hb3))
  exact end_ret (t := 10) (v := .int .i64 1) (by kernel_rfl) rfl rfl ⟨rfl, B3.out⟩
set_option maxHeartbeats 4000000 in
theorem rstore_no (h : RdAt W B r R) (x : Im) (n e : Int) (hx : 0 ≤ x.b ∧ x.b < 10) (hg : Good x) (hm : rmayE R n e ≠ 0) :
    Calls Tryz.prog 7 #[.pointer (some ⟨r, 0, none⟩), sagg sh0, .int .i64 n, .int .u64 e, iagg x] W fun z w' => z = .returned (.int .i64 (rmayE R n e)) ∧ Below W.heap.size W w' := by
  have kb : ∀ W : World, Calls Tryz.prog 25 #[sagg sh0, .int .i64 x.b] W fun e w' => e = .returned (.tuple #[.int .i64 (17 + 2 * x.b), .int .i64 0]) ∧ Below W.heap.size W w' := fun W => by
    exact rblock_ok x.b hx W
  have kp := fun W => rputb_ok x hg W
  have hT := putT_size hg.d
  have h1 := hx.1
  have h2 := hx.2
  obtain ⟨xb, xv, xd⟩ := x
  dsimp only at kb kp h1 h2 hT
  generalize putT ⟨xb, xv, xd⟩ = T at *
  obtain ⟨at_, hat⟩ : ∃ a, 17 + 2 * xb = a := ⟨_, rfl⟩
  rw [hat] at kb
  have kw := fun W (h : RdAt W B r R) => rwrite_no h n e at_ T 2 (by omega) (by omega) hm
  have HH := Lib.hid h
  generalize rmayE R n e = re at *
  clear hat hx hg h1 h2 hT hm h
  unfold iagg sagg sh0 at *
  dsimp only at *
  have hl0 := Blk.new W TSh #[.int .i64 2, .int .i64 10, .int .i64 8, .int .i64 4, .int .i64 32]
  have hi1 := Blk.new (W.alloc (.cells #[.int .i64 2, .int .i64 10, .int .i64 8, .int .i64 4, .int .i64 32] TSh)) TIm #[.int .i64 xb, .int .u64 xv, .string xd]
  have hsz : (W.alloc (.cells #[.int .i64 2, .int .i64 10, .int .i64 8, .int .i64 4, .int .i64 32] TSh)).heap.size = W.heap.size + 1 := by simp
  have hb1 := belowNew (belowNew (belowSame W) (.cells #[.int .i64 2, .int .i64 10, .int .i64 8, .int .i64 4, .int .i64 32] TSh)) (.cells #[.int .i64 xb, .int .u64 xv, .string xd] TIm)
  have hl1 := hl0.below (belowNew (belowSame (W.alloc (.cells #[.int .i64 2, .int .i64 10, .int .i64 8, .int .i64 4, .int .i64 32] TSh))) (.cells #[.int .i64 xb, .int .u64 xv, .string xd] TIm)) hl0.lt
  rw [hsz] at hi1
  obtain ⟨W1, hW1⟩ : ∃ W1, (W.alloc (.cells #[.int .i64 2, .int .i64 10, .int .i64 8, .int .i64 4, .int .i64 32] TSh)).alloc (.cells #[.int .i64 xb, .int .u64 xv, .string xd] TIm) = W1 := ⟨_, rfl⟩
  rw [hW1] at hi1 hb1 hl1
  obtain ⟨r0, hr0⟩ : ∃ r, W.heap.size + 1 = r := ⟨_, rfl⟩
  obtain ⟨x0, hx0⟩ : ∃ x, W.heap.size = x := ⟨_, rfl⟩
  rw [hr0] at hi1
  rw [hx0] at hl1
  have c0 : W1.cell? ⟨x0, 0, none⟩ = some (.int .i64 2) := hl1.cell 0
  have c1 : W1.cell? ⟨x0, 1, none⟩ = some (.int .i64 10) := hl1.cell 1
  have c2 : W1.cell? ⟨x0, 2, none⟩ = some (.int .i64 8) := hl1.cell 2
  have c3 : W1.cell? ⟨x0, 3, none⟩ = some (.int .i64 4) := hl1.cell 3
  have c4 : W1.cell? ⟨x0, 4, none⟩ = some (.int .i64 32) := hl1.cell 4
  have i0 : W1.cell? ⟨r0, 0, none⟩ = some (.int .i64 xb) := hi1.cell 0
  have HW1 := Lib.hid hW1
  have HR0 := Lib.hid hr0
  have HX0 := Lib.hid hx0
  have HBN := Lib.hid hi1
  have BB1 := Lib.hid hb1
  clear hl0 hi1 hsz hb1 hl1 hW1 hr0 hx0
  go_enter Tryz.func7, Tryz.ntmps7
  go_upto_region 1 with fail
  rw [HW1.out]
  try rw [HR0.out]
  try rw [HX0.out]
  go_wp2_with (first
    | (go_at_call 25; refine (kb _).mono ?_; rintro x w2 ⟨rfl, hb2⟩; have B2 := Lib.hid (belowThen BB1.out hb2); have bi := HBN.out.below hb2 HBN.out.lt; have j0 : w2.cell? ⟨r0, 0, none⟩ = some (.int .i64 xb) := bi.cell 0; have j1 : w2.cell? ⟨r0, 1, none⟩ = some (.int .u64 xv) := bi.cell 1; have j2 : w2.cell? ⟨r0, 2, none⟩ = some (.string xd) := bi.cell 2; clear hb2 bi)
    | (go_at_call 26; refine (kp _).mono ?_; rintro x w3 ⟨rfl, hb3⟩; have B3 := Lib.hid (belowThen B2.out hb3); clear hb3)
    | (go_at_call 19; refine (kw _ (HH.out.old B3.out)).mono ?_; rintro x w4 ⟨rfl, rfl⟩; have B4 := Lib.hid B3.out))
  exact end_ret (t := 10) (v := .int .i64 re) (by kernel_rfl) rfl rfl ⟨rfl, B4.out⟩
set_option maxHeartbeats 4000000 in
theorem rstore_ok {S : Nat → Prop} (h : RdS W B r S R) (hS : ∀ k, W.heap.size ≤ k → S k) (x : Im) (n e : Int) (hx : 0 ≤ x.b ∧ x.b < 10) (hg : Good x) (hn : inNode n = true) (hm : rmayE R n e = 0) (hR : R.room = 37) (hN : R.L.length ≤ 1000000) :
    Calls Tryz.prog 7 #[.pointer (some ⟨r, 0, none⟩), sagg sh0, .int .i64 n, .int .u64 e, iagg x] W fun z w' => z = .returned (.int .i64 0) ∧ RdOutS W B r S (moreK R n (17 + 2 * x.b) (putT x) 2) w' := by
  have kb : ∀ W : World, Calls Tryz.prog 25 #[sagg sh0, .int .i64 x.b] W fun e w' => e = .returned (.tuple #[.int .i64 (17 + 2 * x.b), .int .i64 0]) ∧ Below W.heap.size W w' := fun W => by
    exact rblock_ok x.b hx W
  have kp := fun W => rputb_ok x hg W
  have hT := putT_size hg.d
  have h1 := hx.1
  have h2 := hx.2
  obtain ⟨xb, xv, xd⟩ := x
  dsimp only at kb kp h1 h2 hT
  generalize putT ⟨xb, xv, xd⟩ = T at *
  obtain ⟨at_, hat⟩ : ∃ a, 17 + 2 * xb = a := ⟨_, rfl⟩
  rw [hat] at kb
  have HS := Lib.hid hS
  have HAT := Lib.hid hat
  have kw := fun W' (h : RdS W' B r S R) (hk : Keeps S W W') => rwrites_core h W hk HS.out n e at_ T 2 (by omega) (by omega) hn hm (by rw [hR]; omega) (by rw [hR]; omega) hN
  have HH := Lib.hid h
  clear hat hx hg hm h hS hR hN hn
  unfold iagg sagg sh0 at *
  dsimp only at *
  have hl0 := Blk.new W TSh #[.int .i64 2, .int .i64 10, .int .i64 8, .int .i64 4, .int .i64 32]
  have hi1 := Blk.new (W.alloc (.cells #[.int .i64 2, .int .i64 10, .int .i64 8, .int .i64 4, .int .i64 32] TSh)) TIm #[.int .i64 xb, .int .u64 xv, .string xd]
  have hsz : (W.alloc (.cells #[.int .i64 2, .int .i64 10, .int .i64 8, .int .i64 4, .int .i64 32] TSh)).heap.size = W.heap.size + 1 := by simp
  have hb1 := belowNew (belowNew (belowSame W) (.cells #[.int .i64 2, .int .i64 10, .int .i64 8, .int .i64 4, .int .i64 32] TSh)) (.cells #[.int .i64 xb, .int .u64 xv, .string xd] TIm)
  have hl1 := hl0.below (belowNew (belowSame (W.alloc (.cells #[.int .i64 2, .int .i64 10, .int .i64 8, .int .i64 4, .int .i64 32] TSh))) (.cells #[.int .i64 xb, .int .u64 xv, .string xd] TIm)) hl0.lt
  rw [hsz] at hi1
  obtain ⟨W1, hW1⟩ : ∃ W1, (W.alloc (.cells #[.int .i64 2, .int .i64 10, .int .i64 8, .int .i64 4, .int .i64 32] TSh)).alloc (.cells #[.int .i64 xb, .int .u64 xv, .string xd] TIm) = W1 := ⟨_, rfl⟩
  rw [hW1] at hi1 hb1 hl1
  obtain ⟨r0, hr0⟩ : ∃ r, W.heap.size + 1 = r := ⟨_, rfl⟩
  obtain ⟨x0, hx0⟩ : ∃ x, W.heap.size = x := ⟨_, rfl⟩
  rw [hr0] at hi1
  rw [hx0] at hl1
  have c0 : W1.cell? ⟨x0, 0, none⟩ = some (.int .i64 2) := hl1.cell 0
  have c1 : W1.cell? ⟨x0, 1, none⟩ = some (.int .i64 10) := hl1.cell 1
  have c2 : W1.cell? ⟨x0, 2, none⟩ = some (.int .i64 8) := hl1.cell 2
  have c3 : W1.cell? ⟨x0, 3, none⟩ = some (.int .i64 4) := hl1.cell 3
  have c4 : W1.cell? ⟨x0, 4, none⟩ = some (.int .i64 32) := hl1.cell 4
  have i0 : W1.cell? ⟨r0, 0, none⟩ = some (.int .i64 xb) := hi1.cell 0
  have HW1 := Lib.hid hW1
  have HR0 := Lib.hid hr0
  have HX0 := Lib.hid hx0
  have HBN := Lib.hid hi1
  have BB1 := Lib.hid hb1
  clear hl0 hi1 hsz hb1 hl1 hW1 hr0 hx0
  go_enter Tryz.func7, Tryz.ntmps7
  go_upto_region 1 with fail
  rw [HW1.out]
  try rw [HR0.out]
  try rw [HX0.out]
  go_wp2_with (first
    | (go_at_call 25; refine (kb _).mono ?_; rintro x w2 ⟨rfl, hb2⟩; have B2 := Lib.hid (belowThen BB1.out hb2); have bi := HBN.out.below hb2 HBN.out.lt; have j0 : w2.cell? ⟨r0, 0, none⟩ = some (.int .i64 xb) := bi.cell 0; have j1 : w2.cell? ⟨r0, 1, none⟩ = some (.int .u64 xv) := bi.cell 1; have j2 : w2.cell? ⟨r0, 2, none⟩ = some (.string xd) := bi.cell 2; clear hb2 bi)
    | (go_at_call 26; refine (kp _).mono ?_; rintro x w3 ⟨rfl, hb3⟩; have B3 := Lib.hid (belowThen B2.out hb3); clear hb3)
    | (go_at_call 19; refine (kw _ (HH.out.old B3.out) (Keeps.of_below B3.out _)).mono ?_; rintro x w4 ⟨rfl, ho4⟩; have H4 := Lib.hid ho4; clear ho4))
  exact end_ret (t := 10) (v := .int .i64 0) (by kernel_rfl) rfl rfl ⟨rfl, by rw [HAT.out]; exact H4.out⟩
end
end Go.Proofs.YtcbhdggjcelmaaaGreat.BK

/- Our disk and the document's, side by side: what both hold. No condition. -/
namespace Go.Proofs.YtcbhdggjcelmaaaGreat.BK
set_option maxRecDepth 100000
open Go.RowKit Go.Proofs.YtcbhdggjcelmaaaGreat.MI Go.Proofs.YtcbhdggjcelmaaaGreat.WI Go.Proofs.YtcbhdggjcelmaaaGreat.SM Go.Proofs.YtcbhdggjcelmaaaGreat.DK Go.Proofs.YtcbhdggjcelmaaaGreat.SU Go.Proofs.YtcbhdggjcelmaaaGreat.RD
set_option linter.unusedVariables false
set_option linter.unusedSimpArgs false

theorem ratUp_app (L M : List Rw) (q : Int) : ∀ k, k ≤ L.length → ratUp (L ++ M) q k = ratUp L q k
  | 0, _ => rfl
  | k + 1, h => by
    unfold ratUp
    rw [List.getElem?_append_left (by omega), ratUp_app L M q k (by omega)]
theorem rat_snoc (L : List Rw) (x : Rw) (q : Int) : ratUp (L ++ [x]) q (L ++ [x]).length = if x.a = q then x.d else ratUp L q L.length := by
  rw [List.length_append, List.length_singleton, ratUp, List.getElem?_append_right (Nat.le_refl _), Nat.sub_self]
  show (if x.a = q then x.d else ratUp (L ++ [x]) q L.length) = _
  rw [ratUp_app L [x] q _ (Nat.le_refl _)]
theorem more_two (R : Rk) (n a : Int) (T : ByteArray) : (moreK R n a T 2).L = (R.L ++ [⟨n, a + ((0 : Nat) : Int), DK.sect T 0, false⟩]) ++ [⟨n, a + ((1 : Nat) : Int), DK.sect T 1, false⟩] := by
  show R.L ++ (([] ++ [_]) ++ [_]) = _
  rw [List.nil_append, ← List.append_assoc]
/-- What both hold alike. -/
structure Twin (D : Dk) (R : Rk) : Prop where
  on : D.on = true
  armed : D.armed = false
  room : D.room = 37
  rroom : R.room = 37
  stays : D.stays = []
  tab : ∀ n, inNode n = true → D.table n = R.table n
  now : ∀ q, 1 ≤ q → (D.now q).getD zsec = ratUp R.L q R.L.length
  sz : ∀ x ∈ R.L, x.d.size = 64
theorem sect_size {T : ByteArray} (hT : T.size = 128) {k : Nat} (hk : k < 2) : (DK.sect T k).size = 64 := by unfold DK.sect; rw [ByteArray.size_extract]; omega
theorem many_stays (D : Dk) (n a : Int) (b : ByteArray) : ∀ c, (manyK D n a b c).stays = D.stays
  | 0 => rfl
  | c + 1 => many_stays D n a b c
theorem Twin.many {D : Dk} {R : Rk} (h : Twin D R) (n a : Int) (T : ByteArray) (hT : T.size = 128) : Twin (manyK D n a T 2) (moreK R n a T 2) := by
  obtain ⟨f1, f2, f3, f4, f5, f6, _⟩ := many_fields D n a T 2
  refine ⟨f1.trans h.on, f6.trans h.armed, f2.trans h.room, h.rroom, (many_stays D n a T 2).trans h.stays, fun m hm => by rw [f3]; exact h.tab m hm, fun q hq => ?_, fun x hx => ?_⟩
  · rw [many_now, more_two, rat_snoc, rat_snoc]
    show Option.getD (if _ then _ else _) zsec = (if a + ((1 : Nat) : Int) = q then DK.sect T 1 else if a + ((0 : Nat) : Int) = q then DK.sect T 0 else _)
    by_cases h1 : a + ((1 : Nat) : Int) = q
    · rw [if_pos h1, if_pos (by omega), show (q - a).toNat = 1 by omega]; rfl
    · rw [if_neg h1]
      by_cases h0 : a + ((0 : Nat) : Int) = q
      · rw [if_pos h0, if_pos (by omega), show (q - a).toNat = 0 by omega]; rfl
      · rw [if_neg h0, if_neg (by omega)]; exact h.now q hq
  · rw [more_two] at hx
    rcases List.mem_append.1 hx with hx | hx
    · rcases List.mem_append.1 hx with hx | hx
      · exact h.sz x hx
      · rw [List.mem_singleton.1 hx]; exact sect_size hT (by omega)
    · rw [List.mem_singleton.1 hx]; exact sect_size hT (by omega)
theorem ba_toList (a b : ByteArray) : (⟨(a.data.toList ++ b.data.toList).toArray⟩ : ByteArray) = a ++ b := by
  apply ByteArray.ext
  apply Array.ext'
  rw [ByteArray.data_append, Array.toList_append]
theorem Twin.read {D : Dk} {R : Rk} (h : Twin D R) (n : Int) (hn : 0 ≤ n ∧ n < 10) : readT D (17 + 2 * n) 2 = rreadT R.L (17 + 2 * n) 2 := by
  rw [(rd_ok h.on h.room hn).2]
  show (⟨((([] : List UInt8) ++ ((D.now (17 + 2 * n + ((0 : Nat) : Int))).getD zsec).data.toList) ++ ((D.now (17 + 2 * n + ((1 : Nat) : Int))).getD zsec).data.toList).toArray⟩ : ByteArray) = ((⟨#[]⟩ : ByteArray) ++ ratUp R.L (17 + 2 * n + ((0 : Nat) : Int)) R.L.length) ++ ratUp R.L (17 + 2 * n + ((1 : Nat) : Int)) R.L.length
  rw [h.now _ (by omega), h.now _ (by omega), List.nil_append, ba_toList]
  congr 1
theorem Twin.adm {D : Dk} {R : Rk} (h : Twin D R) (n e : Int) : (if inNode n then admK D n e else 1) = rmayE R n e := by
  unfold rmayE admK
  cases hn : inNode n
  · rfl
  · rw [h.tab n hn]
theorem Twin.write {D : Dk} {R : Rk} (h : Twin D R) (n e b : Int) (T : ByteArray) (hb : 0 ≤ b ∧ b < 10) (hT : T.size = 128) : writeE D n e (17 + 2 * b) T = rmayE R n e ∧ writeK D n e (17 + 2 * b) T = if rmayE R n e = 0 then manyK D n (17 + 2 * b) T 2 else D := by
  have ha := h.adm n e
  have m2 : argB T = true := (argB_iff T).2 (by omega)
  have hq : T.size / 64 = 2 := by omega
  have m4 : thereK D (17 + 2 * b) ((T.size / 64 : Nat) : Int) = true := by unfold thereK; rw [hq, h.room]; simp; omega
  obtain ⟨g1, g2⟩ := goes_un h.armed
  have m1 : mayK D n = if inNode n then 0 else 1 := by unfold mayK; rw [h.on]; rfl
  unfold writeE writeK
  rw [m4, m2, hq, g1, g2, m1]
  cases hn : inNode n
  · rw [hn] at ha
    have ha' : rmayE R n e = 1 := ha.symm
    rw [ha']
    exact ⟨rfl, rfl⟩
  · rw [hn] at ha
    have ha' : rmayE R n e = admK D n e := ha.symm
    rw [ha']
    by_cases hz : admK D n e = 0
    · rw [hz]; exact ⟨rfl, rfl⟩
    · have h34 : admK D n e = 34 := by
        unfold admK at hz ⊢
        split
        · rfl
        · rename_i hx; rw [if_neg hx] at hz; exact absurd rfl hz
      rw [h34]; exact ⟨rfl, rfl⟩
end Go.Proofs.YtcbhdggjcelmaaaGreat.BK

/- Our disk and the document's, side by side: Store and Load of each. No condition. -/
namespace Go.Proofs.YtcbhdggjcelmaaaGreat.BK
set_option maxRecDepth 100000
open Go.RowKit Go.Proofs.YtcbhdggjcelmaaaGreat.MI Go.Proofs.YtcbhdggjcelmaaaGreat.WI Go.Proofs.YtcbhdggjcelmaaaGreat.SM Go.Proofs.YtcbhdggjcelmaaaGreat.DK Go.Proofs.YtcbhdggjcelmaaaGreat.SU Go.Proofs.YtcbhdggjcelmaaaGreat.RD
set_option linter.unusedVariables false
set_option linter.unusedSimpArgs false

abbrev Bls := List (Nat × TypeId × Array Value)
/-- Two disks made since w0: none of what a call turns of the one is of the other; blocks beside them. -/
def BothL (w0 : World) (g r N : Nat) (D : Dk) (R : Rk) (bl : Bls) (W : World) : Prop :=
  ∃ p C, DiskAt W w0.heap.size g p N D ∧ RdS W C r (fun k => ¬ fp g p k ∧ ∀ b ∈ bl, b.1 ≠ k) R ∧ Below w0.heap.size w0 W ∧ w0.heap.size ≤ C ∧ (∀ b ∈ bl, Blk W b.1 b.2.1 b.2.2 ∧ ¬ fp g p b.1)
section
variable {w0 W W' : World} {g r N : Nat} {D D' : Dk} {R R' : Rk} {bl : Bls}
theorem rds_mono {S S' : Nat → Prop} {C : Nat} (h : RdS W C r S R) (hs : ∀ k, k < W.heap.size → S k → S' k) : RdS W C r S' R := by
  obtain ⟨a, c, h1, h2, h3, h4, h5⟩ := h
  exact ⟨a, c, h1, h2, h3, hs r h1.lt h4, fun k hk => hs k (h2.lt k (by rw [own_blk]; exact hk)).2 (h5 k hk)⟩
theorem rds_keeps {S S' : Nat → Prop} {C : Nat} (h : RdS W C r S R) (hk : Keeps S' W W') (hs : ∀ k, S k → ¬ S' k) : RdS W' C r S R := by
  obtain ⟨a, c, h1, h2, h3, h4, h5⟩ := h
  exact ⟨a, c, h1.keeps hk (hs r h4), own_keeps h2 hk (fun k hk' => hs k (h5 k (by rw [own_blk] at hk'; exact hk'))), h3, h4, h5⟩
theorem BothL.bel (h : BothL w0 g r N D R bl W) : Below w0.heap.size w0 W := by obtain ⟨_, _, _, _, h, _⟩ := h; exact h
theorem BothL.own (h : BothL w0 g r N D R bl W) : Own w0 g N D W := by obtain ⟨p, _, h1, _, h2, _⟩ := h; exact ⟨p, h1, h2⟩
theorem BothL.rd (h : BothL w0 g r N D R bl W) : ∃ C, RdAt W C r R := by obtain ⟨p, C, _, h1, _⟩ := h; exact ⟨C, h1.at_⟩
theorem BothL.blk (h : BothL w0 g r N D R bl W) {b : Nat × TypeId × Array Value} (hb : b ∈ bl) : Blk W b.1 b.2.1 b.2.2 := by obtain ⟨p, _, _, _, _, _, h3⟩ := h; exact (h3 b hb).1
theorem BothL.b0 {x : Nat} {T : TypeId} {cs : Array Value} (h : BothL w0 g r N D R ((x, T, cs) :: bl) W) : Blk W x T cs := h.blk (b := (x, T, cs)) (List.mem_cons_self ..)
theorem BothL.b1 {x : Nat} {T : TypeId} {cs : Array Value} {y : Nat × TypeId × Array Value} (h : BothL w0 g r N D R (y :: (x, T, cs) :: bl) W) : Blk W x T cs := h.blk (b := (x, T, cs)) (List.mem_cons_of_mem _ (List.mem_cons_self ..))
theorem BothL.then_ (h : BothL w0 g r N D R bl W) (hb : Below W.heap.size W W') : BothL w0 g r N D R bl W' := by
  obtain ⟨p, C, h1, h2, h3, h4, h5⟩ := h
  exact ⟨p, C, h1.old hb, h2.old hb, belowThen h3 hb, h4, fun b hbl => ⟨(h5 b hbl).1.below hb (h5 b hbl).1.lt, (h5 b hbl).2⟩⟩
theorem BothL.drew (h : BothL w0 g r N D R bl W) : BothL w0 g r N D R bl W.drew := h.then_ (belowDrew (belowSame _))
theorem BothL.with_ (h : BothL w0 g r N D R bl W) {x : Nat} {T : TypeId} {cs : Array Value} (hb : Blk W x T cs) (hx : x < w0.heap.size) : BothL w0 g r N D R ((x, T, cs) :: bl) W := by
  obtain ⟨p, C, h1, h2, h3, h4, h5⟩ := h
  obtain ⟨a, c, e1, e2, e3, e4, e5⟩ := h2
  refine ⟨p, C, h1, ⟨a, c, e1, e2, e3, ⟨e4.1, fun b hbl => ?_⟩, fun k hk => ⟨(e5 k hk).1, fun b hbl => ?_⟩⟩, h3, h4, fun b hbl => ?_⟩
  · rcases List.mem_cons.1 hbl with e | hbl
    · rw [e]; show x ≠ r; omega
    · exact e4.2 b hbl
  · rcases List.mem_cons.1 hbl with e | hbl
    · rw [e]; show x ≠ k; have := (e2.lt k (by rw [own_blk]; exact hk)).1; omega
    · exact (e5 k hk).2 b hbl
  · rcases List.mem_cons.1 hbl with e | hbl
    · rw [e]; exact ⟨hb, fun hf => by have := h1.ge _ hf; have hx' : (x, T, cs).1 = x := rfl; omega⟩
    · exact h5 b hbl
theorem BothL.beside (h : BothL w0 g r N D R bl W) (T : TypeId) (cs : Array Value) : BothL w0 g r N D R ((W.heap.size, T, cs) :: bl) (W.alloc (.cells cs T)) := by
  have h0 := h.then_ (belowNew (belowSame W) (.cells cs T))
  obtain ⟨p, C, h1, h2, h3, h4, h5⟩ := h
  have k2 := h2.old (belowNew (belowSame W) (.cells cs T))
  obtain ⟨a, c, e1, e2, e3, e4, e5⟩ := h2
  obtain ⟨a', c', i1, i2, i3, i4, i5⟩ := k2
  have hv : (some (Value.slice a R.L.length c) : Option Value) = some (Value.slice a' R.L.length c') := (((e1.alloc (.cells cs T)).cell 1).symm.trans (i1.cell 1))
  injection hv with hv
  injection hv with q1 q2 q3
  subst q1
  refine ⟨p, C, h1.alloc _, ⟨a, c', i1, i2, i3, ⟨i4.1, fun b hbl => ?_⟩, fun k hk => ⟨(i5 k hk).1, fun b hbl => ?_⟩⟩, belowNew h3 _, h4, fun b hbl => ?_⟩
  · rcases List.mem_cons.1 hbl with e | hbl
    · rw [e]; show W.heap.size ≠ r; have := e1.lt; omega
    · exact i4.2 b hbl
  · rcases List.mem_cons.1 hbl with e | hbl
    · rw [e]; show W.heap.size ≠ k; have := (e2.lt k (by rw [own_blk]; exact hk)).2; omega
    · exact (i5 k hk).2 b hbl
  · rcases List.mem_cons.1 hbl with e | hbl
    · rw [e]; exact ⟨Blk.new _ _ _, fun hf => by have := h1.lt _ hf; have hx' : (W.heap.size, T, cs).1 = W.heap.size := rfl; omega⟩
    · exact ⟨(h5 b hbl).1.alloc _, (h5 b hbl).2⟩
theorem BothL.more (h : BothL w0 g r N D R bl W) {N' : Nat} (hN : N ≤ N') : BothL w0 g r N' D R bl W := by
  obtain ⟨p, C, h1, h2, h3, h4, h5⟩ := h
  obtain ⟨n1, a1, a2⟩ := h1.now
  obtain ⟨n2, b1, b2⟩ := h1.lasts
  exact ⟨p, C, ⟨h1.blk, ⟨n1, by omega, a2⟩, ⟨n2, by omega, b2⟩, h1.waits, h1.stays, h1.sn, h1.far, h1.spl, h1.geg, h1.gen, h1.gel, h1.ne, by have := h1.seq; omega, h1.sane⟩, h2, h3, h4, h5⟩
theorem BothL.ours {p : Pl} {C N' : Nat} (h1 : DiskAt W w0.heap.size g p N D) (h2 : RdS W C r (fun k => ¬ fp g p k ∧ ∀ b ∈ bl, b.1 ≠ k) R) (h3 : Below w0.heap.size w0 W) (h4 : w0.heap.size ≤ C) (h5 : ∀ b ∈ bl, Blk W b.1 b.2.1 b.2.2 ∧ ¬ fp g p b.1) (ho : DiskOut W w0.heap.size g p N' D' W') : BothL w0 g r N' D' R bl W' := by
  obtain ⟨p', k1, k2, k3, _⟩ := ho
  obtain ⟨a, c, e1, e2, e3, e4, e5⟩ := h2
  have gr : ∀ k, k < W.heap.size → ¬ fp g p k → ¬ fp g p' k := fun k hk hn hp => by
    rcases k3 k hp with h | h
    · exact hn h
    · omega
  have hrow : ∀ k, (Value.slice a 0 0).ownBlock = some k → k < W.heap.size := fun k hk => (e2.lt k (by rw [own_blk]; exact hk)).2
  refine ⟨p', C, k1, ⟨a, c, e1.keeps k2 e4.1, own_keeps e2 k2 (fun k hk => (e5 k (by rw [own_blk] at hk; exact hk)).1), e3, ⟨gr _ e1.lt e4.1, e4.2⟩, fun k hk => ⟨gr _ (hrow k hk) (e5 k hk).1, (e5 k hk).2⟩⟩, k2.after h3 h1.ge h1.base, h4, fun b hbl => ⟨(h5 b hbl).1.keeps k2 (h5 b hbl).2, gr _ (h5 b hbl).1.lt (h5 b hbl).2⟩⟩
theorem BothL.theirs {p : Pl} {C : Nat} {S : Nat → Prop} (h1 : DiskAt W w0.heap.size g p N D) (h0 : D.stays = []) (h3 : Below w0.heap.size w0 W) (h4 : w0.heap.size ≤ C) (h5 : ∀ b ∈ bl, Blk W b.1 b.2.1 b.2.2 ∧ ¬ fp g p b.1) (hS : ∀ k, S k → ((¬ fp g p k) ∧ ∀ b ∈ bl, b.1 ≠ k) ∧ w0.heap.size ≤ k) (ho : RdOutS W C r S R' W') : BothL w0 g r N D R' bl W' := by
  obtain ⟨k1, k2⟩ := ho
  exact ⟨p, C, disk_keeps h1 h0 k2 (fun k hk hs => (hS k hs).1.1 hk), rds_mono k1 (fun k _ hk => (hS k hk).1), k2.after h3 (fun k hk => (hS k hk).2) h3.size, h4, fun b hbl => ⟨(h5 b hbl).1.keeps k2 (fun hs => (hS _ hs).1.2 b hbl rfl), (h5 b hbl).2⟩⟩
/-- What Store answers, and what it leaves of each. -/
def stE (R : Rk) (x : Im) (n e : Int) : Int := if 0 ≤ x.b ∧ x.b < 10 then (if rightB x then rmayE R n e else 1) else 30
def stD (D : Dk) (R : Rk) (x : Im) (n e : Int) : Dk := if stE R x n e = 0 then manyK D n (17 + 2 * x.b) (putT x) 2 else D
def stR (R : Rk) (x : Im) (n e : Int) : Rk := if stE R x n e = 0 then moreK R n (17 + 2 * x.b) (putT x) 2 else R
theorem both_b {R0 : Rk} (ht : Twin D R0) (h : BothL w0 g r N D R bl W) (x : Im) (ho : ImOk x) (n e : Int) (hN : N ≤ 10000000) :
    Calls Tryz.prog 6 #[.pointer (some ⟨g, 0, none⟩), sagg sh0, .int .i64 n, .int .u64 e, iagg x] W fun z w' => z = .returned (.int .i64 (stE R0 x n e)) ∧ BothL w0 g r (N + 16) (stD D R0 x n e) R bl w' := by
  by_cases hx : 0 ≤ x.b ∧ x.b < 10
  · by_cases hr : rightB x = true
    · have hg := (right_iff ho).1 hr
      obtain ⟨e1, e2⟩ := ht.write n e x.b (putT x) hx (putT_size hg.d)
      have hs : stE R0 x n e = rmayE R0 n e := by unfold stE; rw [if_pos hx, if_pos hr]
      obtain ⟨p, C, h1, h2, h3, h4, h5⟩ := h
      refine (bstore_d h1 x hg hx.2 n e hN).mono fun z w' ⟨hz, ho'⟩ => ⟨by rw [hz, e1, hs], ?_⟩
      unfold stD
      rw [hs, ← e2]
      exact BothL.ours h1 h2 h3 h4 h5 ho'
    · have hr' : rightB x = false := by simpa using hr
      have hs : stE R0 x n e = 1 := by unfold stE; rw [if_pos hx, if_neg hr]
      refine (bstore_put _ x n e hx ho hr').mono fun z w' ⟨hz, hb⟩ => ⟨by rw [hz, hs], ?_⟩
      unfold stD
      rw [hs]
      exact (h.then_ hb).more (by omega)
  · have hs : stE R0 x n e = 30 := by unfold stE; rw [if_neg hx]
    refine (bstore_bad _ x n e hx).mono fun z w' ⟨hz, hb⟩ => ⟨by rw [hz, hs], ?_⟩
    unfold stD
    rw [hs]
    exact (h.then_ hb).more (by omega)
theorem both_r {D0 : Dk} (ht : Twin D0 R) (h : BothL w0 g r N D R bl W) (h0 : D.stays = []) (x : Im) (ho : ImOk x) (n e : Int) (hN : R.L.length ≤ 1000000) :
    Calls Tryz.prog 7 #[.pointer (some ⟨r, 0, none⟩), sagg sh0, .int .i64 n, .int .u64 e, iagg x] W fun z w' => z = .returned (.int .i64 (stE R x n e)) ∧ BothL w0 g r N D (stR R x n e) bl w' := by
  by_cases hx : 0 ≤ x.b ∧ x.b < 10
  · by_cases hr : rightB x = true
    · have hg := (right_iff ho).1 hr
      have hs : stE R x n e = rmayE R n e := by unfold stE; rw [if_pos hx, if_pos hr]
      obtain ⟨p, C, h1, h2, h3, h4, h5⟩ := h
      by_cases hm : rmayE R n e = 0
      · have hn : inNode n = true := by
          cases hn : inNode n
          · unfold rmayE at hm; rw [hn] at hm; cases hm
          · rfl
        have hc : C ≤ r := h2.at_.ge
        have hS : RdS W C r (fun k => (¬ fp g p k ∧ ∀ b ∈ bl, b.1 ≠ k) ∧ w0.heap.size ≤ k) R := by
          obtain ⟨a, c, e1, e2, e3, e4, e5⟩ := h2
          exact ⟨a, c, e1, e2, e3, ⟨e4, by omega⟩, fun k hk => ⟨e5 k hk, by have := (e2.lt k (by rw [own_blk]; exact hk)).1; omega⟩⟩
        refine (rstore_ok hS (fun k hk => ⟨⟨fun hf => by have := h1.lt k hf; omega, fun b hbl => by have := (h5 b hbl).1.lt; omega⟩, by have := h3.size; omega⟩) x n e hx hg hn hm ht.rroom hN).mono fun z w' ⟨hz, ho'⟩ => ⟨by rw [hz, hs, hm], ?_⟩
        unfold stR
        rw [hs, hm, if_pos rfl]
        exact BothL.theirs h1 h0 h3 h4 h5 (fun k hk => hk) ho'
      · refine (rstore_no h2.at_ x n e hx hg hm).mono fun z w' ⟨hz, hb⟩ => ⟨by rw [hz, hs], ?_⟩
        unfold stR
        rw [hs, if_neg hm]
        exact BothL.then_ (⟨p, C, h1, h2, h3, h4, h5⟩ : BothL w0 g r N D R bl W) hb
    · have hr' : rightB x = false := by simpa using hr
      have hs : stE R x n e = 1 := by unfold stE; rw [if_pos hx, if_neg hr]
      refine (rstore_put _ x n e hx ho hr').mono fun z w' ⟨hz, hb⟩ => ⟨by rw [hz, hs], ?_⟩
      unfold stR
      rw [hs]
      exact h.then_ hb
  · have hs : stE R x n e = 30 := by unfold stE; rw [if_neg hx]
    refine (rstore_bad _ x n e hx).mono fun z w' ⟨hz, hb⟩ => ⟨by rw [hz, hs], ?_⟩
    unfold stR
    rw [hs]
    exact h.then_ hb
theorem stE_zero {x : Im} {n e : Int} (h : stE R x n e = 0) : rightB x = true := by
  unfold stE at h
  split at h
  · split at h
    · assumption
    · cases h
  · cases h
theorem Twin.stored (h : Twin D R) (x : Im) (ho : ImOk x) (n e : Int) : Twin (stD D R x n e) (stR R x n e) := by
  unfold stD stR
  by_cases hz : stE R x n e = 0
  · rw [if_pos hz, if_pos hz]
    exact h.many n _ _ (putT_size ((right_iff ho).1 (stE_zero hz)).d)
  · rw [if_neg hz, if_neg hz]; exact h
/-- What Load answers. -/
def ldX (R : Rk) (n : Int) : Im × Int := if 0 ≤ n ∧ n < 10 then getR n (rreadT R.L (17 + 2 * n) 2) else (im0, 30)
theorem both_lb (ht : Twin D R) (h : BothL w0 g r N D R bl W) (n : Int) :
    Calls Tryz.prog 8 #[.pointer (some ⟨g, 0, none⟩), sagg sh0, .int .i64 n] W fun x w' => x = .returned (.tuple #[iagg (ldX R n).1, .int .i64 (ldX R n).2]) ∧ BothL w0 g r N D R bl w' ∧ Below W.heap.size W w' := by
  unfold ldX
  by_cases hn : 0 ≤ n ∧ n < 10
  · rw [if_pos hn, ← ht.read n hn]
    exact (bload_any h.own n hn (rd_ok ht.on ht.room hn).1).mono fun x w' ⟨hx, _, hb⟩ => ⟨hx, h.then_ hb, hb⟩
  · rw [if_neg hn]
    exact (bload_bad _ n hn W).mono fun x w' ⟨hx, hb⟩ => ⟨hx, h.then_ hb, hb⟩
theorem both_lr (ht : Twin D R) (h : BothL w0 g r N D R bl W) (n : Int) (hN : R.L.length ≤ 1000000) :
    Calls Tryz.prog 9 #[.pointer (some ⟨r, 0, none⟩), sagg sh0, .int .i64 n] W fun x w' => x = .returned (.tuple #[iagg (ldX R n).1, .int .i64 (ldX R n).2]) ∧ BothL w0 g r N D R bl w' ∧ Below W.heap.size W w' := by
  unfold ldX
  by_cases hn : 0 ≤ n ∧ n < 10
  · rw [if_pos hn]
    obtain ⟨C, hr⟩ := h.rd
    exact (rload_any hr n hn ht.rroom hN ht.sz).mono fun x w' ⟨hx, hb⟩ => ⟨hx, h.then_ hb, hb⟩
  · rw [if_neg hn]
    exact (rload_bad _ n hn W).mono fun x w' ⟨hx, hb⟩ => ⟨hx, h.then_ hb, hb⟩
end
end Go.Proofs.YtcbhdggjcelmaaaGreat.BK

/- What Ready leaves: two disks that hold alike. No condition. -/
namespace Go.Proofs.YtcbhdggjcelmaaaGreat.BK
set_option maxRecDepth 100000
open Go.RowKit Go.Proofs.YtcbhdggjcelmaaaGreat.MI Go.Proofs.YtcbhdggjcelmaaaGreat.WI Go.Proofs.YtcbhdggjcelmaaaGreat.SM Go.Proofs.YtcbhdggjcelmaaaGreat.DK Go.Proofs.YtcbhdggjcelmaaaGreat.SU Go.Proofs.YtcbhdggjcelmaaaGreat.RD
set_option linter.unusedVariables false
set_option linter.unusedSimpArgs false

theorem fK_table {D : Dk} (h1 : D.on = true) (h2 : D.armed = false) (h0 : ∀ m, D.table m = 0) : ∀ k, k ≤ 17 → ∀ m, (fK D k).table m = 0 := by
  intro k
  induction k with
  | zero => intro _; exact h0
  | succ k ih =>
    intro hk m
    obtain ⟨a, b, c, d⟩ := fK_ok h1 h2 k (by omega)
    have hin : inNode (k : Int) = true := by unfold inNode; simp; omega
    have hf := (fence_good (n := (k : Int)) a hin b).2
    have hp := (put_good (D := fenceK (fK D k) (k : Int)) (n := (k : Int)) (by rw [hf]; exact a) hin (by rw [hf]; exact b) 0).2
    rw [show fK D (k + 1) = putK (fenceK (fK D k) (k : Int)) (k : Int) 0 from rfl, hp, hf]
    show updF (fK D k).table (k : Int) 0 m = 0
    unfold updF
    split
    · rfl
    · exact ih (by omega) m
theorem format_table {D : Dk} {s : Sh} (hc : Calm D) (h1 : D.on = true) (h2 : D.armed = false) (hl : 0 ≤ D.last) (hg : SU.Good s) (hr : sizeI s ≤ (D.room : Int)) (h0 : ∀ m, D.table m = 0) : ∀ m, (formatK D s).table m = 0 := by
  obtain ⟨q1, q2, q3⟩ := adm_ok h1 h2 hl
  obtain ⟨_, _, u3, u4, u5⟩ := lay_parts q2 hg (by rw [q3]; exact hr)
  obtain ⟨a, b, c, d⟩ := fK_ok h1 h2 17 (by omega)
  have ha := (admit_good (n := 0) (e := D.last + 1) a rfl b (by rw [d]; omega)).2
  have hA : Calm (admD D) := by
    unfold admD
    rw [ha]
    exact (calm_f hc h1 h2 17 (by omega)).like rfl rfl rfl rfl rfl
  have hT : ∀ m, (admD D).table m = updF (fK D 17).table 0 (D.last + 1) m := fun m => by unfold admD; rw [ha]
  have hb := size_b hg
  obtain ⟨z1, z2, z3⟩ := calm_z (size := sizeI s) hA q2 (by rw [q3]; exact hr) (zRounds (sizeI s)) (by unfold zRounds; omega)
  have hL : (layK (admD D) (D.last + 1) s).table = (admD D).table := by
    rw [u3]
    exact z3
  have hf := (fence_good (n := 0) u4.on rfl u4.armed).2
  intro m
  unfold formatK
  rw [hf]
  show updF (layK (admD D) (D.last + 1) s).table 0 0 m = 0
  rw [hL]
  unfold updF
  split
  · rfl
  · rename_i hm
    rw [hT m]
    unfold updF
    rw [if_neg hm]
    exact fK_table h1 h2 h0 17 (by omega) m
theorem df_table (m : Int) : DF.table m = 0 := format_table (D := newK 37) (s := sh0) (calm_new 37) rfl rfl (by decide) good0 df_room (fun _ => rfl) m
theorem rr_L : RR.L = [⟨0, 0, DK.sect (superT sh0) 0, true⟩] := by
  unfold RR RDD RC RB moreK RA R0 rowsW rowsW
  generalize DK.sect (superT sh0) 0 = S
  rfl
theorem rr_table (m : Int) : RR.table m = if m = 1 then 9 else 0 := by
  unfold RR RDD RC RB moreK RA R0
  show updF (updF (updF (fun _ => 0) 0 1) 0 0) 1 9 m = _
  unfold updF
  split
  · rfl
  · split
    · rfl
    · rfl
theorem twin_of {D : Dk} {R : Rk} {d : ByteArray} (h : ReadyD D) (ht : ∀ m, D.table m = R.table m) (hr : R.room = 37) (hL : R.L = [⟨0, 0, d, true⟩]) (hd : d.size = 64) : Twin D R := by
  refine ⟨h.on, h.armed, h.room, hr, h.calm.stays, fun m _ => ht m, fun q hq => ?_, fun x hx => ?_⟩
  · rw [h.calm.now q hq, hL]
    show zsec = if (0 : Int) = q then d else zsec
    rw [if_neg (by omega)]
  · rw [hL] at hx
    rw [List.mem_singleton.1 hx]
    exact hd
theorem twin_ready : Twin DR RR := twin_of dr_ready (fun m => by
    show updF DF.table 1 9 m = _
    rw [rr_table]
    unfold updF
    split
    · rfl
    · exact df_table m) rfl rr_L (by
    have := superT_size sh0
    generalize superT sh0 = T at *
    unfold DK.sect
    rw [ByteArray.size_extract]
    omega)
theorem ready_both {w w' : World} {e : Ending} (h : ReadyOut w e w') : ∃ g r, e = .returned (.tuple #[.pointer (some ⟨g, 0, none⟩), .pointer (some ⟨r, 0, none⟩), sagg sh0, .bool true]) ∧ BothL w g r NR DR RR [] w' := by
  obtain ⟨g, r, p, C, he, h1, h2, h3, h4, h5⟩ := h
  refine ⟨g, r, he, p, C, h1, ?_, h2, h5, fun _ hb => by cases hb⟩
  obtain ⟨a, c, e1, e2, e3⟩ := h3
  exact ⟨a, c, e1, e2, e3, ⟨fun hk => by have := h4 r hk; omega, fun _ hb => by cases hb⟩, fun k hk => ⟨fun hf => by have := h4 k hf; have := (e2.lt k (by rw [own_blk]; exact hk)).1; omega, fun _ hb => by cases hb⟩⟩
end Go.Proofs.YtcbhdggjcelmaaaGreat.BK

/- What a law is told of an image that came in. No condition. -/
namespace Go.Proofs.YtcbhdggjcelmaaaGreat.BK
set_option maxRecDepth 100000
open Go.RowKit Go.WideShapes Go.ChangeShapes Go.Deep
set_option linter.unusedVariables false
set_option linter.unusedSimpArgs false

section
variable {H : Type} {enc : TypeId × Value → H} {w : World}
/-- A struct of three places. -/
theorem three {t t0 t1 t2 : TypeId} {fuel : Nat} {cs : List Value} {x : DataW H × List MemPlace}
    (hu : ∃ fs : Array Field, Tryz.prog.underlying t = some (.struct fs) ∧ fs.map (fun f : Field => (f.type, f.offset)) = #[(t0, 0), (t1, 1), (t2, 2)])
    (hc : Tryz.prog.cellsOf t = 3) (c0 : Tryz.prog.cellsOf t0 = 1) (c1 : Tryz.prog.cellsOf t1 = 1) (c2 : Tryz.prog.cellsOf t2 = 1)
    (h : DataW.trod enc Tryz.prog w 0 (fun _ => true) true fuel t cs = some x) :
    ∃ v0 v1 v2 y0 y1 y2 n, cs = [v0, v1, v2] ∧ DataW.trod enc Tryz.prog w 0 (fun _ => true) true n t0 [v0] = some y0 ∧ DataW.trod enc Tryz.prog w 0 (fun _ => true) true n t1 [v1] = some y1 ∧ DataW.trod enc Tryz.prog w 0 (fun _ => true) true n t2 [v2] = some y2 := by
  obtain ⟨fs, hfs, hff⟩ := hu
  obtain ⟨xs, m', _, _, hlen, hxl, hfld⟩ := DataW.trod_struct hfs h
  have hfsz : fs.size = 3 := by have := congrArg Array.size hff; simpa using this
  have hfa : ∀ (j : Nat) (t : TypeId) (o : Nat), (fs.map (fun f : Field => (f.type, f.offset)))[j]? = some (t, o) → ∃ f : Field, fs[j]? = some f ∧ f.type = t ∧ f.offset = o := by
    intro j t o hj
    rw [Array.getElem?_map] at hj
    cases hfj : fs[j]? with
    | none => rw [hfj] at hj; cases hj
    | some f => rw [hfj] at hj; injection hj with hj; injection hj with h1 h2; exact ⟨f, rfl, h1, h2⟩
  have get : ∀ (j : Nat) (t : TypeId), (fs.map (fun f : Field => (f.type, f.offset)))[j]? = some (t, j) → Tryz.prog.cellsOf t = 1 → j < fs.size → ∃ y, DataW.trod enc Tryz.prog w 0 (fun _ => true) true m' t ((cs.drop j).take 1) = some y := by
    intro j t hj hc hjs
    obtain ⟨f, hf1, hf2, hf3⟩ := hfa j t j hj
    have := hfld j f hf1
    rw [hf2, hf3, hc] at this
    rw [this]
    exact ⟨_, List.getElem?_eq_getElem (by rw [hxl]; exact hjs)⟩
  rw [hc] at hlen
  obtain ⟨y0, hy0⟩ := get 0 _ (by rw [hff]; rfl) c0 (by omega)
  obtain ⟨y1, hy1⟩ := get 1 _ (by rw [hff]; rfl) c1 (by omega)
  obtain ⟨y2, hy2⟩ := get 2 _ (by rw [hff]; rfl) c2 (by omega)
  match cs, hlen with
  | [v0, v1, v2], _ => exact ⟨v0, v1, v2, y0, y1, y2, m', rfl, hy0, hy1, hy2⟩
theorem under_im : ∃ fs : Array Field, Tryz.prog.underlying TIm = some (.struct fs) ∧ fs.map (fun f : Field => (f.type, f.offset)) = #[(3, 0), (22, 1), (9, 2)] := ⟨_, Tryz.underlying24, by kernel_rfl⟩
theorem ci : Tryz.prog.cellsOf 3 = 1 := by kernel_rfl
theorem cu : Tryz.prog.cellsOf 22 = 1 := by kernel_rfl
theorem cst : Tryz.prog.cellsOf 9 = 1 := by kernel_rfl
theorem cim : Tryz.prog.cellsOf TIm = 3 := by kernel_rfl
theorem im_in {base : Nat} {v : Value} {d : DataW H} {p : List MemPlace} (hok : Value.okWide Tryz.prog w .any base TIm v) (h : DataW.Trod enc Tryz.prog w 0 (fun _ => true) true TIm v d p) :
    ∃ x : Im, v = iagg x ∧ ImOk x := by
  obtain ⟨fs, hfs, hff⟩ := under_im
  obtain ⟨cs, rfl, hsz⟩ := okWide_struct hfs hok
  obtain ⟨fuel, hf⟩ := h
  obtain ⟨v0, v1, v2, y0, y1, y2, n, hcs, h0, h1, h2⟩ := three ⟨fs, hfs, hff⟩ cim ci cu cst hf
  have hcs' : cs = #[v0, v1, v2] := by
    have : (Value.cells (.agg cs)).toList = cs.toList := by simp [Value.cells]
    rw [this] at hcs
    exact Array.toList_inj.1 (by rw [hcs])
  subst hcs'
  obtain ⟨z0, e0, _, w0⟩ := DataW.trod_int Tryz.underlying3 h0
  obtain ⟨z1, e1, _, w1⟩ := DataW.trod_int Tryz.underlying22 h1
  obtain ⟨z2, e2, _, w2⟩ := DataW.trod_string Tryz.underlying9 h2
  simp at e0 e1 e2
  subst e0 e1 e2
  exact ⟨⟨z0, z1, z2⟩, rfl, ⟨bounds_i64 w0, bounds_u64 w1, by unfold maxLen at w2; exact w2⟩⟩
end
end Go.Proofs.YtcbhdggjcelmaaaGreat.BK

/- A region walked under a condition on the world: the condition may be made stronger on the way. No condition. -/
namespace Go.Proofs.YtcbhdggjcelmaaaGreat
set_option maxRecDepth 100000
open Go
set_option linter.unusedVariables false

theorem wpAnyH_imp {P : Program} {ops : Array Oper} {Q : Exit → Act → World → Prop} {md : Region.Mode} {S S' : World → Prop} (hs : ∀ w, S' w → S w) :
    ∀ (fuel : Nat) (listed : Array Bool) (a : Act) (w : World), wpAnyH P md ops Q S' fuel listed a w → wpAnyH P md ops Q S fuel listed a w
  | 0, _, _, _, h => h
  | fuel + 1, _, _, _, h => ⟨h.1, fun i hi => wpOp_mono (fun a' w' h' => ⟨hs _ h'.1, wpAnyH_imp hs fuel _ a' w' h'.2⟩) (h.2 i hi)⟩
end Go.Proofs.YtcbhdggjcelmaaaGreat
