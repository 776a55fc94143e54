/- commonslaw8.alive. No condition. -/
import Derived.Test.YtlnomfaaldjnpaaDkRef
namespace Go.Proofs.Ytlnomfaaldjnpaa.DK
open Go.RowKit Go.Proofs.Ytlnomfaaldjnpaa.MI
set_option linter.unusedVariables false
set_option linter.unusedSimpArgs false

theorem zeros_blk {w : World} {b : Nat} (h : Blk w b 5 (zeroCells 64)) : (convert 40 9 (.slice (some ⟨b, 0, none⟩) 64 64)).run Try.prog w = .ok (.string zsec) w := by
  refine text_of (l := List.replicate 64 0) ⟨h.lt, fun j x hx => ?_⟩ 64 64 (by simp)
  refine ⟨?_, h.frozen j⟩
  rw [h.cell]
  have hj : j < 64 := by
    rcases Nat.lt_or_ge j 64 with h | h
    · exact h
    · rw [List.getElem?_eq_none (by simpa using h)] at hx; cases hx
  rw [List.getElem?_replicate, if_pos hj] at hx
  injection hx with hx
  subst hx
  simp [zeroCells, madeCells, hj, Value.cells, Nat.mod_one]
abbrev dA1 : Dk := admitK (newK 4) 1 1
abbrev dA2 : Dk := writeK dA1 1 1 0 (sameT 97 2)
abbrev dA3 : Dk := cutK dA2 [0, 1]
abbrev dA4 : Dk := restoreK dA3
theorem vA1 : admitE (newK 4) 1 1 = 0 := by kernel_rfl
theorem vA2 : writeE dA1 1 1 0 (sameT 97 2) = 0 := by kernel_rfl
theorem vA3 : cutN dA2 = 2 := by kernel_rfl
theorem vA4 : readT dA4 0 2 = zsec ++ sameT 97 1 := by decide +kernel
theorem vA5 : readE dA4 0 2 = 0 := by kernel_rfl
theorem vA6 : dA4.last = 1 := by kernel_rfl
theorem vA7 : writeE dA4 1 2 0 (sameT 97 1) = 34 := by kernel_rfl
set_option maxHeartbeats 4000000 in
theorem alive_any (w : World) : Calls Try.prog 12 #[] w fun e w' => e = .returned (.bool true) ∧ Below w.heap.size w w' := by
  have knew := own_new w (belowSame w) 4 (by omega) (by omega)
  have kadm : ∀ {g : Nat} {W : World}, Own w g 0 (newK 4) W → Calls Try.prog 14 #[.pointer (some ⟨g, 0, none⟩), .int .i64 1, .int .u64 1] W fun e' w' => e' = .returned (.int .i64 0) ∧ Own w g 0 dA1 w' := fun {g W} h => by
    have := own_admit h 1 1 (by omega); rwa [vA1] at this
  have kwri : ∀ {g : Nat} {W : World}, Own w g 0 dA1 W → Calls Try.prog 15 #[.pointer (some ⟨g, 0, none⟩), .int .i64 1, .int .u64 1, .int .i64 0, .string (sameT 97 2)] W fun e' w' => e' = .returned (.int .i64 0) ∧ Own w g 16 dA2 w' := fun {g W} h => by
    have := own_write h 1 1 0 (sameT 97 2) (by rw [sameT_size]; omega) (by omega); rwa [vA2] at this
  have kcut : ∀ {g : Nat} {W : World}, Own w g 16 dA2 W → Calls Try.prog 19 #[.pointer (some ⟨g, 0, none⟩), .slice (some ⟨W.heap.size, 0, none⟩) 2 2] (W.alloc (.cells #[.int .i64 0, .int .i64 1] 3)) fun e' w' => e' = .returned (.int .i64 2) ∧ Own w g 16 dA3 w' := fun {g W} h => by
    have := own_cut_new h (.cells #[.int .i64 0, .int .i64 1] 3) 2 2 [0, 1] (Lies.of_blk (Blk.new W _ _)) (by omega); rwa [vA3] at this
  have krst : ∀ {g : Nat} {W : World}, Own w g 16 dA3 W → Calls Try.prog 20 #[.pointer (some ⟨g, 0, none⟩)] W fun e' w' => e' = .returned (.tuple #[]) ∧ Own w g 16 dA4 w' := fun {g W} h => own_restore h
  have kread : ∀ {g : Nat} {W : World}, Own w g 16 dA4 W → Calls Try.prog 17 #[.pointer (some ⟨g, 0, none⟩), .int .i64 0, .int .i64 2] W fun e' w' => e' = .returned (.tuple #[.string (zsec ++ sameT 97 1), .int .i64 0]) ∧ Own w g 16 dA4 w' := fun {g W} h => by
    have := own_read h 0 2; rwa [vA4, vA5] at this
  have hlast : ∀ {g : Nat} (W : World), Own w g 16 dA4 W → Calls Try.prog 23 #[.pointer (some ⟨g, 0, none⟩)] W fun e' w' => e' = .returned (.int .u64 1) ∧ w' = W := fun {g} W h => by
    have := own_last h; rwa [vA6] at this
  have hwr : ∀ {g : Nat} (W : World), Own w g 16 dA4 W → Calls Try.prog 15 #[.pointer (some ⟨g, 0, none⟩), .int .i64 1, .int .u64 2, .int .i64 0, .string (sameT 97 1)] W fun e' w' => e' = .returned (.int .i64 34) ∧ w' = W := fun {g} W h => by
    have := own_write_ref h 1 2 0 (sameT 97 1) (by rw [sameT_size]; omega) (by omega) (refused (by rw [vA7]; decide) (by rw [vA7]; decide)); rwa [vA7] at this
  have hfill2 := fun W => fill_any W 97 2 (by omega)
  have hfill := fun W => fill_any W 97 1 (by omega)
  have htx := fun (W : World) (b : Nat) (h : Blk W b 5 (zeroCells 64)) => zeros_blk h
  have hmk : ∀ W : World, (Instr.makeSlice 40 (.int .i64 64) (.int .i64 64)).run Try.prog W = .ok (.slice (some ⟨W.heap.size, 0, none⟩) 64 64) (W.alloc (.cells (zeroCells 64) 5)) := zeros_make 64 (by omega)
  obtain ⟨ZC, hZC0⟩ : ∃ ZC, zeroCells 64 = ZC := ⟨_, rfl⟩
  have hZC : ZC.size = 64 := by rw [← hZC0]; kernel_rfl
  rw [hZC0] at htx hmk
  have HTX := Lib.hid htx
  have hz : ¬ 9223372036854775807 < zsec.size + (sameT 97 1).size := by decide
  generalize zsec = Z at *
  generalize sameT 97 1 = Y at *
  generalize sameT 97 2 = Y2 at *
  generalize dA4 = D4 at *
  generalize dA3 = D3 at *
  generalize dA2 = D2 at *
  generalize dA1 = D1 at *
  clear htx hZC0
  go_enter Try.func12, Try.ntmps12
  go_wp2_with (first
    | (go_at_call 13; refine knew.mono ?_; rintro e w1 ⟨g, rfl, h1⟩; have H1 := Lib.hid h1; clear h1)
    | (go_at_call 14; refine (kadm H1.out).mono ?_; rintro e w2 ⟨rfl, h2⟩; have H2 := Lib.hid h2; clear h2)
    | (go_at_call 16; refine (hfill2 _).mono ?_; rintro e w3 ⟨rfl, h3⟩; have H3 := Lib.hid (H2.out.then_ h3); clear h3)
    | (go_at_call 15; refine (kwri H3.out).mono ?_; rintro e w4 ⟨rfl, h4⟩; have H4 := Lib.hid h4; clear h4)
    | (go_at_call 19; refine (kcut H4.out).mono ?_; rintro e w5 ⟨rfl, h5⟩; have H5 := Lib.hid h5; clear h5)
    | (go_at_call 20; refine (krst H5.out).mono ?_; rintro e w6 ⟨rfl, h6⟩; have H6 := Lib.hid h6; clear h6)
    | (go_at_call 17; refine (kread H6.out).mono ?_; rintro e w7 ⟨rfl, h7⟩; have HO := Lib.hid h7; clear h7))
  refine wp_region_inv (fun i' v' w' => ([(fun v' _ => v' = (.int .i64 0)), (fun v' _ => v' = (.bool true)), (fun v' _ => v' = (.bool true)), (fun v' _ => v' = (.string (Z ++ Y))), (fun v' w' => SliceAt 5 ZC v' w'), (fun v' _ => v' = (.string Z)), (fun v' _ => v' = (.string Y)), (fun v' _ => v' = (.string (Z ++ Y))), (fun v' _ => v' = (.bool true)), (fun v' _ => v' = (.bool true)), (fun v' _ => v' = (.bool true)), (fun v' _ => v' = (.pointer (some ⟨g, 0, none⟩))), (fun v' _ => v' = (.int .u64 1)), (fun v' _ => v' = (.bool true)), (fun v' _ => v' = (.bool true)), (fun v' _ => v' = (.bool true)), (fun v' _ => v' = (.pointer (some ⟨g, 0, none⟩))), (fun v' _ => v' = (.string Y)), (fun v' _ => v' = (.int .i64 34)), (fun v' _ => v' = (.bool true)), (fun v' _ => v' = (.bool true)), (fun v' _ => v' = (.bool true))] : List (Value → World → Prop)).getD i' (fun _ _ => True) v' w') (by kernel_rfl) (by kernel_rfl) (stab_list (by
      repeat (first | exact allStab_nil | refine allStab_cons (stab_eq _) ?_ | refine allStab_cons (stab_slice _ _) ?_))) ?_ ?_
  · refine steps_cons rfl ?_ ?_
    · intro a w hR K hK
      have e3 : a.tmps.getD 3 undef = (.int .i64 0) := hR.old 3 (by kernel_rfl) rfl
      rw [if_pos (wanted_none rfl)]
      have hB := hR.bel
      clear hR
      go_simp
      exact hK _ _ (belowSame _) rfl
    refine steps_cons rfl ?_ ?_
    · intro a w hR K hK
      obtain ⟨v31, e31, _, q31⟩ := hR.val 0 31 (by kernel_rfl) (by kernel_rfl)
      obtain rfl : v31 = (.int .i64 0) := q31
      rw [if_pos (wanted_none rfl)]
      have hB := hR.bel
      clear hR
      go_simp
      exact hK _ _ (belowSame _) rfl
    refine steps_cons rfl ?_ ?_
    · intro a w hR K hK
      obtain ⟨v32, e32, _, q32⟩ := hR.val 1 32 (by kernel_rfl) (by kernel_rfl)
      obtain rfl : v32 = (.bool true) := q32
      rw [if_pos (wanted_none rfl)]
      have hB := hR.bel
      clear hR
      go_simp
      exact hK _ _ (belowSame _) rfl
    refine steps_cons rfl ?_ ?_
    · intro a w hR K hK
      have e2 : a.tmps.getD 2 undef = (.string (Z ++ Y)) := hR.old 2 (by kernel_rfl) rfl
      rw [if_pos (hR.wants (o := _) rfl (by kernel_rfl : depB _ 2 = true) (by kernel_rfl : dstAt _ 2 = some 33) (fun _ h => h))]
      have hB := hR.bel
      clear hR
      go_simp
      exact hK _ _ (belowSame _) rfl
    refine steps_cons rfl ?_ ?_
    · intro a w hR K hK
      rw [if_pos (hR.wants (o := _) rfl (by kernel_rfl : depB _ 2 = true) (by kernel_rfl : dstAt _ 2 = some 33) (fun _ h => h))]
      clear hR
      go_simp
      exact hK _ _ (belowNew (belowSame _) _) ⟨_, by rw [hZC], Blk.new _ _ _⟩
    refine steps_cons rfl ?_ ?_
    · intro a w hR K hK
      obtain ⟨v35, e35, _, q35⟩ := hR.val 4 35 (by kernel_rfl) (by kernel_rfl)
      rw [if_pos (hR.wants (o := _) rfl (by kernel_rfl : depB _ 2 = true) (by kernel_rfl : dstAt _ 2 = some 33) (fun _ h => h))]
      obtain ⟨x35, rfl, b35⟩ := q35
      rw [hZC] at *
      have hcv := HTX.out _ _ b35
      clear hR
      go_simp
      exact hK _ _ (belowSame _) rfl
    refine steps_cons rfl ?_ ?_
    · intro a w hR K hK
      rw [if_pos (hR.wants (o := _) rfl (by kernel_rfl : depB _ 2 = true) (by kernel_rfl : dstAt _ 2 = some 33) (fun _ h => h))]
      have hB := hR.bel
      clear hR
      go_simp
      refine (hfill _).mono ?_
      rintro e w' ⟨rfl, hw⟩
      exact hK _ _ (by first | exact belowOfEq hw | exact hw) rfl
    refine steps_cons rfl ?_ ?_
    · intro a w hR K hK
      obtain ⟨v36, e36, _, q36⟩ := hR.val 5 36 (by kernel_rfl) (by kernel_rfl)
      obtain rfl : v36 = (.string Z) := q36
      obtain ⟨v37, e37, _, q37⟩ := hR.val 6 37 (by kernel_rfl) (by kernel_rfl)
      obtain rfl : v37 = (.string Y) := q37
      rw [if_pos (hR.wants (o := _) rfl (by kernel_rfl : depB _ 2 = true) (by kernel_rfl : dstAt _ 2 = some 33) (fun _ h => h))]
      have hB := hR.bel
      clear hR
      go_simp
      exact hK _ _ (belowSame _) rfl
    refine steps_cons rfl ?_ ?_
    · intro a w hR K hK
      obtain ⟨v34, e34, _, q34⟩ := hR.val 3 34 (by kernel_rfl) (by kernel_rfl)
      obtain rfl : v34 = (.string (Z ++ Y)) := q34
      obtain ⟨v38, e38, _, q38⟩ := hR.val 7 38 (by kernel_rfl) (by kernel_rfl)
      obtain rfl : v38 = (.string (Z ++ Y)) := q38
      rw [if_pos (hR.wants (o := _) rfl (by kernel_rfl : depB _ 2 = true) (by kernel_rfl : dstAt _ 2 = some 33) (fun _ h => h))]
      have hB := hR.bel
      clear hR
      go_simp
      exact hK _ _ (belowSame _) rfl
    refine steps_cons rfl ?_ ?_
    · intro a w hR K hK
      obtain ⟨v33, e33, _, q33⟩ := hR.val 2 33 (by kernel_rfl) (by kernel_rfl)
      obtain rfl : v33 = (.bool true) := q33
      obtain ⟨v39, e39, _, q39⟩ := hR.val 8 39 (by kernel_rfl) (by kernel_rfl)
      obtain rfl : v39 = (.bool true) := q39
      rw [if_pos (wanted_none rfl)]
      have hB := hR.bel
      clear hR
      go_simp
      exact hK _ _ (belowSame _) rfl
    refine steps_cons rfl ?_ ?_
    · intro a w hR K hK
      obtain ⟨v40, e40, _, q40⟩ := hR.val 9 40 (by kernel_rfl) (by kernel_rfl)
      obtain rfl : v40 = (.bool true) := q40
      rw [if_pos (wanted_none rfl)]
      have hB := hR.bel
      clear hR
      go_simp
      exact hK _ _ (belowSame _) rfl
    refine steps_cons rfl ?_ ?_
    · intro a w hR K hK
      have e1 : a.tmps.getD 1 undef = (.pointer (some ⟨g, 0, none⟩)) := hR.old 1 (by kernel_rfl) rfl
      rw [if_pos (hR.wants (o := _) rfl (by kernel_rfl : depB _ 10 = true) (by kernel_rfl : dstAt _ 10 = some 41) (fun _ h => h))]
      have hB := hR.bel
      clear hR
      go_simp
      exact hK _ _ (belowSame _) rfl
    refine steps_cons rfl ?_ ?_
    · intro a w hR K hK
      obtain ⟨v42, e42, _, q42⟩ := hR.val 11 42 (by kernel_rfl) (by kernel_rfl)
      obtain rfl : v42 = (.pointer (some ⟨g, 0, none⟩)) := q42
      rw [if_pos (hR.wants (o := _) rfl (by kernel_rfl : depB _ 10 = true) (by kernel_rfl : dstAt _ 10 = some 41) (fun _ h => h))]
      have ho := HO.out.then_ (belowUndrew hR.bel)
      have kl := hlast _ ho
      clear hR ho
      go_simp
      refine kl.mono ?_
      rintro e w' ⟨rfl, rfl⟩
      exact hK _ _ (belowSame _) rfl
    refine steps_cons rfl ?_ ?_
    · intro a w hR K hK
      obtain ⟨v43, e43, _, q43⟩ := hR.val 12 43 (by kernel_rfl) (by kernel_rfl)
      obtain rfl : v43 = (.int .u64 1) := q43
      rw [if_pos (hR.wants (o := _) rfl (by kernel_rfl : depB _ 10 = true) (by kernel_rfl : dstAt _ 10 = some 41) (fun _ h => h))]
      have hB := hR.bel
      clear hR
      go_simp
      exact hK _ _ (belowSame _) rfl
    refine steps_cons rfl ?_ ?_
    · intro a w hR K hK
      obtain ⟨v41, e41, _, q41⟩ := hR.val 10 41 (by kernel_rfl) (by kernel_rfl)
      obtain rfl : v41 = (.bool true) := q41
      obtain ⟨v44, e44, _, q44⟩ := hR.val 13 44 (by kernel_rfl) (by kernel_rfl)
      obtain rfl : v44 = (.bool true) := q44
      rw [if_pos (wanted_none rfl)]
      have hB := hR.bel
      clear hR
      go_simp
      exact hK _ _ (belowSame _) rfl
    refine steps_cons rfl ?_ ?_
    · intro a w hR K hK
      obtain ⟨v45, e45, _, q45⟩ := hR.val 14 45 (by kernel_rfl) (by kernel_rfl)
      obtain rfl : v45 = (.bool true) := q45
      rw [if_pos (wanted_none rfl)]
      have hB := hR.bel
      clear hR
      go_simp
      exact hK _ _ (belowSame _) rfl
    refine steps_cons rfl ?_ ?_
    · intro a w hR K hK
      have e1 : a.tmps.getD 1 undef = (.pointer (some ⟨g, 0, none⟩)) := hR.old 1 (by kernel_rfl) rfl
      rw [if_pos (hR.wants (o := _) rfl (by kernel_rfl : depB _ 15 = true) (by kernel_rfl : dstAt _ 15 = some 46) (fun _ h => h))]
      have hB := hR.bel
      clear hR
      go_simp
      exact hK _ _ (belowSame _) rfl
    refine steps_cons rfl ?_ ?_
    · intro a w hR K hK
      rw [if_pos (hR.wants (o := _) rfl (by kernel_rfl : depB _ 15 = true) (by kernel_rfl : dstAt _ 15 = some 46) (fun _ h => h))]
      have hB := hR.bel
      clear hR
      go_simp
      refine (hfill _).mono ?_
      rintro e w' ⟨rfl, hw⟩
      exact hK _ _ (by first | exact belowOfEq hw | exact hw) rfl
    refine steps_cons rfl ?_ ?_
    · intro a w hR K hK
      obtain ⟨v47, e47, _, q47⟩ := hR.val 16 47 (by kernel_rfl) (by kernel_rfl)
      obtain rfl : v47 = (.pointer (some ⟨g, 0, none⟩)) := q47
      obtain ⟨v48, e48, _, q48⟩ := hR.val 17 48 (by kernel_rfl) (by kernel_rfl)
      obtain rfl : v48 = (.string Y) := q48
      rw [if_pos (hR.wants (o := _) rfl (by kernel_rfl : depB _ 15 = true) (by kernel_rfl : dstAt _ 15 = some 46) (fun _ h => h))]
      have ho := HO.out.then_ (belowUndrew hR.bel)
      have kl := hwr _ ho
      clear hR ho
      go_simp
      refine kl.mono ?_
      rintro e w' ⟨rfl, rfl⟩
      exact hK _ _ (belowSame _) rfl
    refine steps_cons rfl ?_ ?_
    · intro a w hR K hK
      obtain ⟨v49, e49, _, q49⟩ := hR.val 18 49 (by kernel_rfl) (by kernel_rfl)
      obtain rfl : v49 = (.int .i64 34) := q49
      rw [if_pos (hR.wants (o := _) rfl (by kernel_rfl : depB _ 15 = true) (by kernel_rfl : dstAt _ 15 = some 46) (fun _ h => h))]
      have hB := hR.bel
      clear hR
      go_simp
      exact hK _ _ (belowSame _) rfl
    refine steps_cons rfl ?_ ?_
    · intro a w hR K hK
      obtain ⟨v46, e46, _, q46⟩ := hR.val 15 46 (by kernel_rfl) (by kernel_rfl)
      obtain rfl : v46 = (.bool true) := q46
      obtain ⟨v50, e50, _, q50⟩ := hR.val 19 50 (by kernel_rfl) (by kernel_rfl)
      obtain rfl : v50 = (.bool true) := q50
      rw [if_pos (wanted_none rfl)]
      have hB := hR.bel
      clear hR
      go_simp
      exact hK _ _ (belowSame _) rfl
    refine steps_cons rfl ?_ ?_
    · intro a w hR K hK
      obtain ⟨v51, e51, _, q51⟩ := hR.val 20 51 (by kernel_rfl) (by kernel_rfl)
      obtain rfl : v51 = (.bool true) := q51
      rw [if_pos (wanted_none rfl)]
      have hB := hR.bel
      clear hR
      go_simp
      exact hK _ _ (belowSame _) rfl
    exact steps_nil
  · intro a' w' hF
    obtain ⟨v0, e0, _, q0⟩ := hF.val 21 0 (by decide) (by kernel_rfl)
    obtain rfl : v0 = (.bool true) := q0
    have hd := hF.defers
    have hb := hF.bel
    clear hF
    go_wp2_with fail
    exact end_ret rfl e0 hd ⟨rfl, belowThen HO.out.bel (belowUndrew hb)⟩

end Go.Proofs.Ytlnomfaaldjnpaa.DK

