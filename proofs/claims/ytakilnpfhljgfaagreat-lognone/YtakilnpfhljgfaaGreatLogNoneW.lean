/- LogNone: of a nil and of a zero log, of no disk. No condition. -/
import Derived.Test.YtakilnpfhljgfaaGreatM4
namespace Go.Proofs.YtakilnpfhljgfaaGreat.WL
set_option maxRecDepth 100000
open Go.RowKit Go.Proofs.YtakilnpfhljgfaaGreat.MI Go.Proofs.YtakilnpfhljgfaaGreat.WI Go.Proofs.YtakilnpfhljgfaaGreat.SM Go.Proofs.YtakilnpfhljgfaaGreat.DK Go.Proofs.YtakilnpfhljgfaaGreat.SU Go.Proofs.YtakilnpfhljgfaaGreat.BK
set_option linter.unusedVariables false
set_option linter.unusedSimpArgs false

set_option maxHeartbeats 8000000 in
theorem none_walk (w : World) (v n : Int) : Calls Tryz.prog 5 #[.int .u64 v, .int .i64 n] w (AQuiet w) := by
  have kr := fun W => ready_any W
  unfold ReadyOut at kr
  generalize DR = D0 at *
  generalize NR = N0 at *
  obtain ⟨T1, hT1⟩ : ∃ T, RC.oneT 1 = T := ⟨_, rfl⟩
  have k1 : ∀ W, Calls Tryz.prog 11 #[.int .i64 1, .int .u64 1] W fun x w' => x = .returned (.agg #[.int .i64 1, .int .u64 1, .string T1]) ∧ Below W.heap.size W w' := fun W => one_new 1 (by decide) 1 T1 hT1 W
  have ka := fun W => alive_any W
  unfold AQuiet at ka
  unfold sagg sh0 at *
  clear hT1
  have hz := Blk.new w TLg #[.pointer none, .int .i64 0, .int .i64 0, .int .i64 0, .int .i64 0, .int .i64 0, .int .i64 0, .int .u64 0, .int .i64 0, .int .u64 0, .int .u64 0, .int .i64 0, .int .u64 0, .int .u64 0, .pointer none, .bool false]
  have hb := belowNew (belowSame w) (.cells #[.pointer none, .int .i64 0, .int .i64 0, .int .i64 0, .int .i64 0, .int .i64 0, .int .i64 0, .int .u64 0, .int .i64 0, .int .u64 0, .int .u64 0, .int .i64 0, .int .u64 0, .int .u64 0, .pointer none, .bool false] TLg)
  obtain ⟨W0, hW0⟩ : ∃ W0, w.alloc (.cells #[.pointer none, .int .i64 0, .int .i64 0, .int .i64 0, .int .i64 0, .int .i64 0, .int .i64 0, .int .u64 0, .int .i64 0, .int .u64 0, .int .u64 0, .int .i64 0, .int .u64 0, .int .u64 0, .pointer none, .bool false] TLg) = W0 := ⟨_, rfl⟩
  rw [hW0] at hz hb
  obtain ⟨z, hzz⟩ : ∃ z, w.heap.size = z := ⟨_, rfl⟩
  have hwz : w.heap.size ≤ z := by omega
  rw [hzz] at hz
  have HZ := Lib.hid hz
  have HB := Lib.hid hb
  have HW0 := Lib.hid hW0
  have HZZ := Lib.hid hzz
  clear hz hb hW0 hzz
  go_enter Tryz.func5, Tryz.ntmps5
  go_upto_region 3 with fail
  rw [HW0.out, HZZ.out]
  go_upto_region 4 with (go_at_call 8; refine (kr _).mono ?_; rintro x w1 ⟨d, r, p, C, rfl, _, hb, _, _, _⟩; have Z1 := Lib.hid (HZ.out.below hb HZ.out.lt); have B1 := Lib.hid (belowThen HB.out hb); clear hb kr)
  have hl := Blk.new w1 TLa #[.int .i64 2, .int .i64 10, .int .i64 8, .int .i64 4, .int .i64 32]
  have hb := belowNew (belowSame w1) (.cells #[.int .i64 2, .int .i64 10, .int .i64 8, .int .i64 4, .int .i64 32] TLa)
  obtain ⟨W2, hW2⟩ : ∃ W2, w1.alloc (.cells #[.int .i64 2, .int .i64 10, .int .i64 8, .int .i64 4, .int .i64 32] TLa) = W2 := ⟨_, rfl⟩
  rw [hW2] at hl hb ⊢
  obtain ⟨x9, hx9⟩ : ∃ x, w1.heap.size = x := ⟨_, rfl⟩
  have hz2 := Z1.out.below hb Z1.out.lt
  have hb2 := belowThen B1.out hb
  rw [hx9] at hl ⊢
  have c0 : W2.cell? ⟨x9, 0, none⟩ = some (.int .i64 2) := hl.cell 0
  have c1 : W2.cell? ⟨x9, 1, none⟩ = some (.int .i64 10) := hl.cell 1
  have c2 : W2.cell? ⟨x9, 2, none⟩ = some (.int .i64 8) := hl.cell 2
  have c3 : W2.cell? ⟨x9, 3, none⟩ = some (.int .i64 4) := hl.cell 3
  have c4 : W2.cell? ⟨x9, 4, none⟩ = some (.int .i64 32) := hl.cell 4
  have Z2 := Lib.hid hz2
  have B2 := Lib.hid hb2
  clear hl hb hz2 hb2 hx9 hW2
  go_upto_region 5 with (go_at_call 9; refine (open_nil _).mono ?_; rintro x w3 ⟨rfl, hb⟩; have Z3 := Lib.hid (Z2.out.below hb Z2.out.lt); have B3 := Lib.hid (belowThen B2.out hb); clear hb)
  clear c0 c1 c2 c3 c4
  go_upto_region 6 with (first
    | (go_at_call 11; refine (k1 _).mono ?_; rintro x w4 ⟨rfl, hb⟩; have Z4 := Lib.hid ((Z3.out.below hb Z3.out.lt).alloc (.cells #[.int .i64 1, .int .u64 1, .string T1] RC.TIm)); have B4 := Lib.hid (belowNew (belowThen B3.out hb) (.cells #[.int .i64 1, .int .u64 1, .string T1] RC.TIm)); clear hb)
    | (go_at_call 10; (with_reducible refine (add_nil _ _ _ _).mono ?_); rintro x wn ⟨rfl, rfl⟩))
  go_upto_region 7 with (first
    | (go_at_call 11; refine (k1 _).mono ?_; rintro x w5 ⟨rfl, hb⟩; have Z5 := Lib.hid ((Z4.out.below hb Z4.out.lt).alloc (.cells #[.int .i64 1, .int .u64 1, .string T1] RC.TIm)); have B5 := Lib.hid (belowNew (belowThen B4.out hb) (.cells #[.int .i64 1, .int .u64 1, .string T1] RC.TIm)); clear hb)
    | (go_at_call 10; (with_reducible refine (add_zero _ (Z5.out.cell 0) _ _ _).mono ?_); rintro x wn ⟨rfl, rfl⟩))
  go_upto_region 8 with (go_at_call 20; (with_reducible refine (write_nil _).mono ?_); rintro x wn ⟨rfl, rfl⟩)
  go_wp2_with (first
    | (go_at_call 20; (with_reducible refine (write_zero _ (Z5.out.cell 0)).mono ?_); rintro x wn ⟨rfl, rfl⟩)
    | (go_at_call 7; refine (ka _).mono ?_; rintro x w6 ⟨rfl, hb⟩; have Z6 : Hid (w6.cell? ⟨z, 0, none⟩ = some (.pointer none)) := Lib.hid ((Z5.out.below hb Z5.out.lt).cell 0); have B6 := Lib.hid (belowThen B5.out hb); clear hb)
    | (go_at_call 18; (with_reducible refine (sync_nil _).mono ?_); rintro x wn ⟨rfl, rfl⟩)
    | (go_at_call 18; (with_reducible refine (sync_zero _ Z6.out).mono ?_); rintro x wn ⟨rfl, rfl⟩)
    | (go_at_call 19; (with_reducible refine (free_nil _ v).mono ?_); rintro x wn ⟨rfl, rfl⟩)
    | (go_at_call 19; (with_reducible refine (free_zero _ Z6.out v).mono ?_); rintro x wn ⟨rfl, rfl⟩)
    | (go_at_call 17; (with_reducible refine (fits_nil _ n).mono ?_); rintro x wn ⟨rfl, rfl⟩)
    | (go_at_call 17; (with_reducible refine (fits_zero _ Z6.out n).mono ?_); rintro x wn ⟨rfl, rfl⟩)
    | (go_at_call 12; (with_reducible refine (next_nil _).mono ?_); rintro x wn ⟨rfl, rfl⟩)
    | (go_at_call 21; (with_reducible refine (written_nil _).mono ?_); rintro x wn ⟨rfl, rfl⟩)
    | (go_at_call 21; (with_reducible refine (written_zero _ Z6.out).mono ?_); rintro x wn ⟨rfl, rfl⟩)
    | (go_at_call 22; (with_reducible refine (synced_nil _).mono ?_); rintro x wn ⟨rfl, rfl⟩)
    | (go_at_call 22; (with_reducible refine (synced_zero _ Z6.out).mono ?_); rintro x wn ⟨rfl, rfl⟩)
    | (go_at_call 23; (with_reducible refine (first_nil _).mono ?_); rintro x wn ⟨rfl, rfl⟩)
    | (go_at_call 13; (with_reducible refine (used_nil _).mono ?_); rintro x wn ⟨rfl, rfl⟩)
    | (go_at_call 13; (with_reducible refine (used_zero _ Z6.out).mono ?_); rintro x wn ⟨rfl, rfl⟩)
    | (go_at_call 14; (with_reducible refine (pending_nil _).mono ?_); rintro x wn ⟨rfl, rfl⟩)
    | (go_at_call 14; (with_reducible refine (pending_zero _ Z6.out).mono ?_); rintro x wn ⟨rfl, rfl⟩)
    | (go_at_call 15; (with_reducible refine (broken_nil _).mono ?_); rintro x wn ⟨rfl, rfl⟩))
  exact end_ret (t := 4) (v := .bool true) (by kernel_rfl) rfl rfl ⟨rfl, B6.out⟩
end Go.Proofs.YtakilnpfhljgfaaGreat.WL
namespace Go.Proofs.YtakilnpfhljgfaaGreat.logNone
set_option maxRecDepth 100000
set_option linter.unusedVariables false
open Go.RowKit
theorem walk (v n : Int) (w : World) (g0 : (Lit.int .u64 v).wf = true) (g1 : (Lit.int .i64 n).wf = true) : Calls Tryz.prog 5 #[.int .u64 v, .int .i64 n] w fun e w' => e = .returned (.bool true) ∧ Below w.heap.size w w' := WL.none_walk w v n
end Go.Proofs.YtakilnpfhljgfaaGreat.logNone
