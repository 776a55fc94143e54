/- super: Load. No condition. -/
import Derived.Test.YtacogpogplionaaSup6
namespace Go.Proofs.Ytacogpogplionaa.SU
set_option maxRecDepth 100000
open Go.RowKit Go.Proofs.Ytacogpogplionaa.WI Go.Proofs.Ytacogpogplionaa.SM Go.Proofs.Ytacogpogplionaa.DK
set_option linter.unusedVariables false
set_option linter.unusedSimpArgs false

theorem own_read2 {w0 W : World} {g N : Nat} {D : Dk} (h : Own w0 g N D W) (q n : Int) : Calls Try.prog 29 #[.pointer (some ⟨g, 0, none⟩), .int .i64 q, .int .i64 n] W fun e' w' => e' = .returned (.tuple #[.string (readT D q n), .int .i64 (readE D q n)]) ∧ Own w0 g N D w' ∧ Below W.heap.size W w' := by
  obtain ⟨p, h1, h2⟩ := h
  exact (read_any h1 q n).mono fun _ _ ⟨he, ho⟩ => ⟨he, Own.then_ ⟨p, h1, h2⟩ ho, ho⟩
set_option maxHeartbeats 8000000 in
theorem load_any {w0 W : World} {g N : Nat} {D : Dk} (h : Own w0 g N D W) (s : Sh) (hg : Good s) (hr : sizeI s ≤ (D.room : Int)) (h1 : readE D 0 1 = 0) (h2 : readT D 0 1 = superT s) :
    Calls Try.prog 16 #[.pointer (some ⟨g, 0, none⟩)] W fun x w' => x = .returned (.tuple #[sagg s, .int .i64 0]) ∧ Own w0 g N D w' ∧ Below W.heap.size W w' := by
  have kr := fun W (h : Own w0 g N D W) => own_read2 h 0 1
  rw [h1, h2] at kr
  have kg := fun W => get_ok s hg W
  have ks := fun W => size_ok s hg W
  have hrm : decide ((D.room : Int) < sizeI s) = false := by simp; omega
  unfold sagg at *
  generalize sizeI s = SZ at *
  generalize superT s = ST at *
  have HO := Lib.hid h
  have hbn := Blk.new W TLa #[.int .i64 0, .int .i64 0, .int .i64 0, .int .i64 0, .int .i64 0]
  have hb0 := (Below.refl _ W).alloc (Nat.le_refl _) (.cells #[.int .i64 0, .int .i64 0, .int .i64 0, .int .i64 0, .int .i64 0] TLa)
  obtain ⟨W0, hW0⟩ : ∃ W0, W.alloc (.cells #[.int .i64 0, .int .i64 0, .int .i64 0, .int .i64 0, .int .i64 0] TLa) = W0 := ⟨_, rfl⟩
  rw [hW0] at hbn hb0
  have hoa := h.then_ hb0
  obtain ⟨r0, hr0⟩ : ∃ r, W.heap.size = r := ⟨_, rfl⟩
  rw [hr0] at hbn
  have HW0 := Lib.hid hW0
  have HR0 := Lib.hid hr0
  have HBN := Lib.hid hbn
  have HB0 := Lib.hid hb0
  have HOA := Lib.hid hoa
  clear hbn hb0 hW0 hr0 h hg hoa hr h1 h2
  go_enter Try.func16, Try.ntmps16
  go_upto_region 1 with fail
  rw [show W.alloc (.cells #[.int .i64 0, .int .i64 0, .int .i64 0, .int .i64 0, .int .i64 0] TLa) = W0 from HW0.out, HR0.out]
  go_upto_region 5 with (first
    | (go_at_call 29; refine (kr _ HOA.out).mono ?_; rintro x w1 ⟨rfl, ho1, hb1⟩; have HO1 := Lib.hid ho1; have HB1 := Lib.hid hb1; clear ho1 hb1)
    | (go_at_call 11; refine (kg _).mono ?_; rintro x w2 ⟨rfl, hb2⟩; have HO2 := Lib.hid (HO1.out.then_ hb2); have HB2 := Lib.hid (belowThen HB1.out hb2); clear hb2))
  have hx6 := Blk.new w2 TSh (scells s)
  have ho6 := HO2.out.then_ (belowNew (belowSame w2) (.cells (scells s) TSh))
  have hb6 := belowNew HB2.out (.cells (scells s) TSh)
  obtain ⟨W6, hW6⟩ : ∃ W6, w2.alloc (.cells (scells s) TSh) = W6 := ⟨_, rfl⟩
  obtain ⟨x6, hx⟩ : ∃ x, w2.heap.size = x := ⟨_, rfl⟩
  rw [hW6] at hx6 ho6 hb6
  rw [hx] at hx6
  rw [show w2.alloc (.cells #[.int .i64 s.n, .int .i64 s.b, .int .i64 s.l, .int .i64 s.c, .int .i64 s.e] TSh) = W6 from hW6, hx]
  have HX6 := Lib.hid hx6
  have HO6 := Lib.hid ho6
  have HB6 := Lib.hid hb6
  clear hx6 ho6 hb6 hW6 hx kr kg
  refine wp_region_inv (fun i' v' w' => ([(fun v' _ => v' = (.int .i64 0)), (fun v' _ => v' = (.bool false)), (fun v' _ => v' = (.bool false)), (fun v' _ => v' = (.pointer (some ⟨g, 0, none⟩))), (fun v' _ => v' = (.int .i64 (D.room : Int))), (fun v' _ => v' = (.agg #[.int .i64 s.n, .int .i64 s.b, .int .i64 s.l, .int .i64 s.c, .int .i64 s.e])), (fun v' _ => v' = (.int .i64 SZ)), (fun v' _ => v' = (.bool false)), (fun v' _ => v' = (.bool false))] : List (Value → World → Prop)).getD i' (fun _ _ => True) v' w') (by kernel_rfl) (by kernel_rfl) (stab_list (by
      repeat (first | exact allStab_nil | refine allStab_cons (stab_eq _) ?_ | refine allStab_cons (stab_slice _ _) ?_))) ?_ ?_
  · refine steps_cons rfl ?_ ?_
    · intro a w hR K hK
      have e5 : a.tmps.getD 5 undef = (.int .i64 0) := hR.old 5 (by kernel_rfl) rfl
      rw [if_pos (wanted_none rfl)]
      have hB := hR.bel
      clear hR
      go_simp
      exact hK _ _ (belowSame _) rfl
    refine steps_cons rfl ?_ ?_
    · intro a w hR K hK
      obtain ⟨v21, e21, _, q21⟩ := hR.val 0 21 (by kernel_rfl) (by kernel_rfl)
      obtain rfl : v21 = (.int .i64 0) := q21
      rw [if_pos (wanted_none rfl)]
      have hB := hR.bel
      clear hR
      go_simp
      exact hK _ _ (belowSame _) rfl
    refine steps_cons rfl ?_ ?_
    · intro a w hR K hK
      obtain ⟨v22, e22, _, q22⟩ := hR.val 1 22 (by kernel_rfl) (by kernel_rfl)
      obtain rfl : v22 = (.bool false) := q22
      rw [if_pos (wanted_none rfl)]
      have hB := hR.bel
      clear hR
      go_simp
      exact hK _ _ (belowSame _) rfl
    refine steps_cons rfl ?_ ?_
    · intro a w hR K hK
      have e0 : a.tmps.getD 0 undef = (.pointer (some ⟨g, 0, none⟩)) := hR.old 0 (by kernel_rfl) rfl
      rw [if_pos (hR.wants (o := _) rfl (by kernel_rfl : depB _ 2 = true) (by kernel_rfl : dstAt _ 2 = some 23) (fun _ h => h))]
      have hB := hR.bel
      clear hR
      go_simp
      exact hK _ _ (belowSame _) rfl
    refine steps_cons rfl ?_ ?_
    · intro a w hR K hK
      obtain ⟨v24, e24, _, q24⟩ := hR.val 3 24 (by kernel_rfl) (by kernel_rfl)
      obtain rfl : v24 = (.pointer (some ⟨g, 0, none⟩)) := q24
      rw [if_pos (hR.wants (o := _) rfl (by kernel_rfl : depB _ 2 = true) (by kernel_rfl : dstAt _ 2 = some 23) (fun _ h => h))]
      have ho := HO6.out.then_ (belowUndrew hR.bel)
      have kl := own_sectors ho
      clear hR ho
      go_simp
      refine kl.mono ?_
      rintro e w' ⟨rfl, rfl⟩
      exact hK _ _ (belowSame _) rfl
    refine steps_cons rfl ?_ ?_
    · intro a w hR K hK
      have e6 : a.tmps.getD 6 undef = (.pointer (some ⟨x6, 0, none⟩)) := hR.old 6 (by kernel_rfl) rfl
      rw [if_pos (hR.wants (o := _) rfl (by kernel_rfl : depB _ 2 = true) (by kernel_rfl : dstAt _ 2 = some 23) (fun _ h => h))]
      have bk := HX6.out.below (belowUndrew hR.bel) HX6.out.lt
      have hc0 : w.cell? ⟨x6, 0, none⟩ = some (.int .i64 s.n) := bk.cell 0
      have hc1 : w.cell? ⟨x6, 1, none⟩ = some (.int .i64 s.b) := bk.cell 1
      have hc2 : w.cell? ⟨x6, 2, none⟩ = some (.int .i64 s.l) := bk.cell 2
      have hc3 : w.cell? ⟨x6, 3, none⟩ = some (.int .i64 s.c) := bk.cell 3
      have hc4 : w.cell? ⟨x6, 4, none⟩ = some (.int .i64 s.e) := bk.cell 4
      clear hR bk
      go_simp
      exact hK _ _ (belowSame _) rfl
    refine steps_cons rfl ?_ ?_
    · intro a w hR K hK
      obtain ⟨v26, e26, _, q26⟩ := hR.val 5 26 (by kernel_rfl) (by kernel_rfl)
      obtain rfl : v26 = (.agg #[.int .i64 s.n, .int .i64 s.b, .int .i64 s.l, .int .i64 s.c, .int .i64 s.e]) := q26
      rw [if_pos (hR.wants (o := _) rfl (by kernel_rfl : depB _ 2 = true) (by kernel_rfl : dstAt _ 2 = some 23) (fun _ h => h))]
      have hB := hR.bel
      clear hR
      go_simp
      refine (ks _).mono ?_
      rintro e w' ⟨rfl, hw⟩
      exact hK _ _ (by first | exact belowOfEq hw | exact hw) rfl
    refine steps_cons rfl ?_ ?_
    · intro a w hR K hK
      obtain ⟨v25, e25, _, q25⟩ := hR.val 4 25 (by kernel_rfl) (by kernel_rfl)
      obtain rfl : v25 = (.int .i64 (D.room : Int)) := q25
      obtain ⟨v27, e27, _, q27⟩ := hR.val 6 27 (by kernel_rfl) (by kernel_rfl)
      obtain rfl : v27 = (.int .i64 SZ) := q27
      rw [if_pos (hR.wants (o := _) rfl (by kernel_rfl : depB _ 2 = true) (by kernel_rfl : dstAt _ 2 = some 23) (fun _ h => h))]
      have hB := hR.bel
      clear hR
      go_simp
      exact hK _ _ (belowSame _) rfl
    refine steps_cons rfl ?_ ?_
    · intro a w hR K hK
      obtain ⟨v23, e23, _, q23⟩ := hR.val 2 23 (by kernel_rfl) (by kernel_rfl)
      obtain rfl : v23 = (.bool false) := q23
      obtain ⟨v28, e28, _, q28⟩ := hR.val 7 28 (by kernel_rfl) (by kernel_rfl)
      obtain rfl : v28 = (.bool false) := q28
      rw [if_pos (wanted_none rfl)]
      have hB := hR.bel
      clear hR
      go_simp
      exact hK _ _ (belowSame _) rfl
    exact steps_nil
  · intro a' w' hF
    obtain ⟨v29, e29, _, q29⟩ := hF.val 8 29 (by decide) (by kernel_rfl)
    obtain rfl : v29 = (.bool false) := q29
    have hB := belowUndrew hF.bel
    have hf := hF.frame
    rw [show dsts _ = [21, 22, 23, 24, 25, 26, 27, 28, 29] from by kernel_rfl] at hf
    obtain ⟨z21, h21⟩ : ∃ z, a'.tmps.getD 21 undef = z := ⟨_, rfl⟩
    obtain ⟨z22, h22⟩ : ∃ z, a'.tmps.getD 22 undef = z := ⟨_, rfl⟩
    obtain ⟨z23, h23⟩ : ∃ z, a'.tmps.getD 23 undef = z := ⟨_, rfl⟩
    obtain ⟨z24, h24⟩ : ∃ z, a'.tmps.getD 24 undef = z := ⟨_, rfl⟩
    obtain ⟨z25, h25⟩ : ∃ z, a'.tmps.getD 25 undef = z := ⟨_, rfl⟩
    obtain ⟨z26, h26⟩ : ∃ z, a'.tmps.getD 26 undef = z := ⟨_, rfl⟩
    obtain ⟨z27, h27⟩ : ∃ z, a'.tmps.getD 27 undef = z := ⟨_, rfl⟩
    obtain ⟨z28, h28⟩ : ∃ z, a'.tmps.getD 28 undef = z := ⟨_, rfl⟩
    simp only [List.foldl_cons, List.foldl_nil, h21, h22, h23, h24, h25, h26, h27, h28, e29] at hf
    simp only [List.setIfInBounds_toArray, List.set_cons_zero, List.set_cons_succ] at hf
    clear hF e29 h21 h22 h23 h24 h25 h26 h27 h28
    subst hf
    have bx := HX6.out.below hB HX6.out.lt
    have x0 : w'.cell? ⟨x6, 0, none⟩ = some (.int .i64 s.n) := bx.cell 0
    have x1 : w'.cell? ⟨x6, 1, none⟩ = some (.int .i64 s.b) := bx.cell 1
    have x2 : w'.cell? ⟨x6, 2, none⟩ = some (.int .i64 s.l) := bx.cell 2
    have x3 : w'.cell? ⟨x6, 3, none⟩ = some (.int .i64 s.c) := bx.cell 3
    have x4 : w'.cell? ⟨x6, 4, none⟩ = some (.int .i64 s.e) := bx.cell 4
    have hb9 := HB6.out.trans (hB.mono HB6.out.size)
    have br := HBN.out.below hb9 HBN.out.lt
    have y0 : w'.cell? ⟨r0, 0, none⟩ = some (.int .i64 0) := br.cell 0
    have y1 : w'.cell? ⟨r0, 1, none⟩ = some (.int .i64 0) := br.cell 1
    have y2 : w'.cell? ⟨r0, 2, none⟩ = some (.int .i64 0) := br.cell 2
    have y3 : w'.cell? ⟨r0, 3, none⟩ = some (.int .i64 0) := br.cell 3
    have y4 : w'.cell? ⟨r0, 4, none⟩ = some (.int .i64 0) := br.cell 4
    have f0 := br.frozen 0
    have f1 := br.frozen 1
    have f2 := br.frozen 2
    have f3 := br.frozen 3
    have f4 := br.frozen 4
    have HBR := Lib.hid br
    have HB9 := Lib.hid hb9
    clear hB bx hb9 br
    go_wp2_with fail
    have b4 := (((((HBR.out.set_ 0 (.int .i64 s.n)).set_ 1 (.int .i64 s.b)).set_ 2 (.int .i64 s.l)).set_ 3 (.int .i64 s.c)).set_ 4 (.int .i64 s.e))
    have hr0 : W.heap.size ≤ r0 := by rw [HR0.out]; exact Nat.le_refl _
    have hA : Below W.heap.size W w' := HB0.out.trans (HB9.out.mono HB0.out.size)
    have hE : Below W.heap.size W (((((w'.setCell ⟨r0, 0, none⟩ (.int .i64 s.n)).setCell ⟨r0, 1, none⟩ (.int .i64 s.b)).setCell ⟨r0, 2, none⟩ (.int .i64 s.l)).setCell ⟨r0, 3, none⟩ (.int .i64 s.c)).setCell ⟨r0, 4, none⟩ (.int .i64 s.e)) := (((((hA.setCell (p := ⟨r0, 0, none⟩) hr0 (.int .i64 s.n)).setCell (p := ⟨r0, 1, none⟩) hr0 (.int .i64 s.b)).setCell (p := ⟨r0, 2, none⟩) hr0 (.int .i64 s.l)).setCell (p := ⟨r0, 3, none⟩) hr0 (.int .i64 s.c)).setCell (p := ⟨r0, 4, none⟩) hr0 (.int .i64 s.e))
    have d0 : (((((w'.setCell ⟨r0, 0, none⟩ (.int .i64 s.n)).setCell ⟨r0, 1, none⟩ (.int .i64 s.b)).setCell ⟨r0, 2, none⟩ (.int .i64 s.l)).setCell ⟨r0, 3, none⟩ (.int .i64 s.c)).setCell ⟨r0, 4, none⟩ (.int .i64 s.e)).cell? ⟨r0, 0, none⟩ = some (.int .i64 s.n) := b4.cell 0
    have d1 : (((((w'.setCell ⟨r0, 0, none⟩ (.int .i64 s.n)).setCell ⟨r0, 1, none⟩ (.int .i64 s.b)).setCell ⟨r0, 2, none⟩ (.int .i64 s.l)).setCell ⟨r0, 3, none⟩ (.int .i64 s.c)).setCell ⟨r0, 4, none⟩ (.int .i64 s.e)).cell? ⟨r0, 1, none⟩ = some (.int .i64 s.b) := b4.cell 1
    have d2 : (((((w'.setCell ⟨r0, 0, none⟩ (.int .i64 s.n)).setCell ⟨r0, 1, none⟩ (.int .i64 s.b)).setCell ⟨r0, 2, none⟩ (.int .i64 s.l)).setCell ⟨r0, 3, none⟩ (.int .i64 s.c)).setCell ⟨r0, 4, none⟩ (.int .i64 s.e)).cell? ⟨r0, 2, none⟩ = some (.int .i64 s.l) := b4.cell 2
    have d3 : (((((w'.setCell ⟨r0, 0, none⟩ (.int .i64 s.n)).setCell ⟨r0, 1, none⟩ (.int .i64 s.b)).setCell ⟨r0, 2, none⟩ (.int .i64 s.l)).setCell ⟨r0, 3, none⟩ (.int .i64 s.c)).setCell ⟨r0, 4, none⟩ (.int .i64 s.e)).cell? ⟨r0, 3, none⟩ = some (.int .i64 s.c) := b4.cell 3
    have d4 : (((((w'.setCell ⟨r0, 0, none⟩ (.int .i64 s.n)).setCell ⟨r0, 1, none⟩ (.int .i64 s.b)).setCell ⟨r0, 2, none⟩ (.int .i64 s.l)).setCell ⟨r0, 3, none⟩ (.int .i64 s.c)).setCell ⟨r0, 4, none⟩ (.int .i64 s.e)).cell? ⟨r0, 4, none⟩ = some (.int .i64 s.e) := b4.cell 4
    exact bodyPost_ret (v := .tuple #[.agg #[.int .i64 s.n, .int .i64 s.b, .int .i64 s.l, .int .i64 s.c, .int .i64 s.e], .int .i64 0]) (by simp [results, Try.results16, go_sem, d0, d1, d2, d3, d4]) rfl ⟨rfl, HO.out.then_ hE, hE⟩
end Go.Proofs.Ytacogpogplionaa.SU
