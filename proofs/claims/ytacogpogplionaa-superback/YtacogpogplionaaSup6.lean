/- super: Format. No condition. -/
import Derived.Test.YtacogpogplionaaSup5
import Derived.Test.YtacogpogplionaaRegInv2
import Derived.Test.YtacogpogplionaaRegTail
namespace Go.Proofs.Ytacogpogplionaa.SU
set_option maxRecDepth 100000
open Go.RowKit Go.Proofs.Ytacogpogplionaa.WI Go.Proofs.Ytacogpogplionaa.SM Go.Proofs.Ytacogpogplionaa.DK
set_option linter.unusedVariables false
set_option linter.unusedSimpArgs false

/-- Nodes 0 .. k-1 fenced, their words 0. -/
def fK (D : Dk) : Nat → Dk
  | 0 => D
  | k + 1 => putK (fenceK (fK D k) (k : Int)) (k : Int) 0
theorem fK_ok {D : Dk} (h1 : D.on = true) (h2 : D.armed = false) : ∀ k, k ≤ 17 → (fK D k).on = true ∧ (fK D k).armed = false ∧ (fK D k).room = D.room ∧ (fK D k).last = D.last := by
  intro k
  induction k with
  | zero => intro _; exact ⟨h1, h2, rfl, rfl⟩
  | succ k ih =>
    intro hk
    obtain ⟨a, b, c, d⟩ := ih (by omega)
    have hin : inNode (k : Int) = true := by unfold inNode; simp; omega
    have hf := (fence_good (n := (k : Int)) a hin b).2
    have hp := (put_good (D := fenceK (fK D k) (k : Int)) (n := (k : Int)) (by rw [hf]; exact a) hin (by rw [hf]; exact b) 0).2
    rw [show fK D (k + 1) = putK (fenceK (fK D k) (k : Int)) (k : Int) 0 from rfl, hp, hf]
    exact ⟨a, b, c, d⟩
theorem fK_step {D : Dk} (h1 : D.on = true) (h2 : D.armed = false) (k : Nat) (hk : k < 17) : fenceE (fK D k) (k : Int) = 0 ∧ fenceE (fenceK (fK D k) (k : Int)) (k : Int) = 0 := by
  obtain ⟨a, b, c, d⟩ := fK_ok h1 h2 k (by omega)
  have hin : inNode (k : Int) = true := by unfold inNode; simp; omega
  have hf := fence_good (n := (k : Int)) a hin b
  exact ⟨hf.1, (put_good (D := fenceK (fK D k) (k : Int)) (n := (k : Int)) (by rw [hf.2]; exact a) hin (by rw [hf.2]; exact b) 0).1⟩
def admD (D : Dk) : Dk := admitK (fK D 17) 0 (D.last + 1)
def formatK (D : Dk) (s : Sh) : Dk := fenceK (layK (admD D) (D.last + 1) s) 0
theorem adm_ok {D : Dk} (h1 : D.on = true) (h2 : D.armed = false) (hl : 0 ≤ D.last) : admitE (fK D 17) 0 (D.last + 1) = 0 ∧ Up (admD D) (D.last + 1) ∧ (admD D).room = D.room := by
  obtain ⟨a, b, c, d⟩ := fK_ok h1 h2 17 (by omega)
  have ha := admit_good (n := 0) (e := D.last + 1) a rfl b (by rw [d]; omega)
  unfold admD
  rw [ha.2]
  exact ⟨ha.1, ⟨a, b, by simp [updF], by omega⟩, c⟩
set_option maxHeartbeats 8000000 in
theorem format_any {w0 W : World} {g N : Nat} {D : Dk} (h : Own w0 g N D W) (s : Sh) (h1 : D.on = true) (h2 : D.armed = false) (hl : 0 ≤ D.last ∧ D.last < 18446744073709551615) (hg : Good s) (hr : sizeI s ≤ (D.room : Int)) (hN : N ≤ 1000000) :
    Calls Try.prog 15 #[.pointer (some ⟨g, 0, none⟩), sagg s] W fun x w' => x = .returned (.int .i64 0) ∧ Own w0 g (N + 16 * zRounds (sizeI s) + 16) (formatK D s) w' := by
  have hv := (valid_iff s).2 hg
  have kv := fun W => valid_any s W
  rw [hv] at kv
  obtain ⟨q1, q2, q3⟩ := adm_ok h1 h2 hl.1
  obtain ⟨_, _, _, r4⟩ := fK_ok h1 h2 17 (by omega)
  have ks := fun W => size_ok s hg W
  have kst := fun k hk => fK_step h1 h2 k hk
  have klast := fun W (h : Own2 w0 g N (fK D 17) W.heap.size TSh (scells s) W) => own_last h.own
  have kadm := fun W x (h : Own2 w0 g N (fK D 17) x TSh (scells s) W) => own2_admit h 0 (D.last + 1) (by omega)
  rw [q1] at kadm
  have klay := fun W (h : Own w0 g N (admD D) W) => lay_any h (D.last + 1) s q2 hg (by rw [q3]; exact hr) hN
  obtain ⟨_, _, _, u4, _⟩ := lay_parts q2 hg (by rw [q3]; exact hr)
  have hzr : zRounds (sizeI s) ≤ 1251 := by have := size_b hg; unfold zRounds; omega
  have kfen := fun W (h : Own w0 g (N + 16 * zRounds (sizeI s) + 16) (layK (admD D) (D.last + 1) s) W) => own_fence h 0 (by omega)
  rw [(fence_good (n := 0) u4.on rfl u4.armed).1] at kfen
  have hrm : decide ((D.room : Int) < sizeI s) = false := by simp; omega
  have KST := Lib.hid kst
  have hfk : formatK D s = fenceK (layK (admD D) (D.last + 1) s) 0 := rfl
  rw [hfk]
  rw [show admitK (fK D 17) 0 (D.last + 1) = admD D from rfl] at kadm
  have HO := Lib.hid (Own.beside h TSh (scells s))
  unfold sagg at *
  generalize layK (admD D) (D.last + 1) s = DL at *
  generalize admD D = DA at *
  generalize zRounds (sizeI s) = Z at *
  generalize sizeI s = SZ at *
  clear h hv hg kst hfk u4 q1 q2 q3 hzr klast
  go_enter Try.func15, Try.ntmps15
  go_upto_region 1 with fail
  obtain ⟨W1, hW1⟩ : ∃ W1, W.alloc (.cells (scells s) TSh) = W1 := ⟨_, rfl⟩
  obtain ⟨x0, hx0⟩ : ∃ x, W.heap.size = x := ⟨_, rfl⟩
  have HO0 := HO.out
  rw [hW1, hx0] at HO0
  rw [show W.alloc (.cells #[.int .i64 s.n, .int .i64 s.b, .int .i64 s.l, .int .i64 s.c, .int .i64 s.e] TSh) = W1 from hW1, hx0]
  have b1 := HO0.blk
  have y0 : W1.cell? ⟨x0, 0, none⟩ = some (.int .i64 s.n) := b1.cell 0
  have y1 : W1.cell? ⟨x0, 1, none⟩ = some (.int .i64 s.b) := b1.cell 1
  have y2 : W1.cell? ⟨x0, 2, none⟩ = some (.int .i64 s.l) := b1.cell 2
  have y3 : W1.cell? ⟨x0, 3, none⟩ = some (.int .i64 s.c) := b1.cell 3
  have y4 : W1.cell? ⟨x0, 4, none⟩ = some (.int .i64 s.e) := b1.cell 4
  have HOA := Lib.hid HO0
  clear HO0 hW1 hx0 HO b1
  go_upto_region 3 with (go_at_call 5; refine (kv _).mono ?_; rintro x w1 ⟨rfl, hb1⟩; have HO1 := Lib.hid (HOA.out.then_ hb1); clear hb1 y0 y1 y2 y3 y4)
  refine wp_region_inv (fun i' v' w' => ([(fun v' _ => v' = (.pointer (some ⟨g, 0, none⟩))), (fun v' _ => v' = (.int .i64 (D.room : Int))), (fun v' _ => v' = (.agg #[.int .i64 s.n, .int .i64 s.b, .int .i64 s.l, .int .i64 s.c, .int .i64 s.e])), (fun v' _ => v' = (.int .i64 SZ)), (fun v' _ => v' = (.bool false)), (fun v' _ => v' = (.bool false))] : List (Value → World → Prop)).getD i' (fun _ _ => True) v' w') (by kernel_rfl) (by kernel_rfl) (stab_list (by
      repeat (first | exact allStab_nil | refine allStab_cons (stab_eq _) ?_ | refine allStab_cons (stab_slice _ _) ?_))) ?_ ?_
  · refine steps_cons rfl ?_ ?_
    · intro a w hR K hK
      have e0 : a.tmps.getD 0 undef = (.pointer (some ⟨g, 0, none⟩)) := hR.old 0 (by kernel_rfl) rfl
      rw [if_pos (wanted_none rfl)]
      have hB := hR.bel
      clear hR
      go_simp
      exact hK _ _ (belowSame _) rfl
    refine steps_cons rfl ?_ ?_
    · intro a w hR K hK
      obtain ⟨v20, e20, _, q20⟩ := hR.val 0 20 (by kernel_rfl) (by kernel_rfl)
      obtain rfl : v20 = (.pointer (some ⟨g, 0, none⟩)) := q20
      rw [if_pos (wanted_none rfl)]
      have ho := HO1.out.then_ (belowUndrew hR.bel)
      have kl := own_sectors ho.own
      clear hR ho
      go_simp
      refine kl.mono ?_
      rintro e w' ⟨rfl, rfl⟩
      exact hK _ _ (belowSame _) rfl
    refine steps_cons rfl ?_ ?_
    · intro a w hR K hK
      have e3 : a.tmps.getD 3 undef = (.pointer (some ⟨x0, 0, none⟩)) := hR.old 3 (by kernel_rfl) rfl
      rw [if_pos (wanted_none rfl)]
      have bk := (HO1.out.then_ (belowUndrew hR.bel)).blk
      have hc0 : w.cell? ⟨x0, 0, none⟩ = some (.int .i64 s.n) := bk.cell 0
      have hc1 : w.cell? ⟨x0, 1, none⟩ = some (.int .i64 s.b) := bk.cell 1
      have hc2 : w.cell? ⟨x0, 2, none⟩ = some (.int .i64 s.l) := bk.cell 2
      have hc3 : w.cell? ⟨x0, 3, none⟩ = some (.int .i64 s.c) := bk.cell 3
      have hc4 : w.cell? ⟨x0, 4, none⟩ = some (.int .i64 s.e) := bk.cell 4
      clear hR bk
      go_simp
      exact hK _ _ (belowSame _) rfl
    refine steps_cons rfl ?_ ?_
    · intro a w hR K hK
      obtain ⟨v22, e22, _, q22⟩ := hR.val 2 22 (by kernel_rfl) (by kernel_rfl)
      obtain rfl : v22 = (.agg #[.int .i64 s.n, .int .i64 s.b, .int .i64 s.l, .int .i64 s.c, .int .i64 s.e]) := q22
      rw [if_pos (wanted_none rfl)]
      have hB := hR.bel
      clear hR
      go_simp
      refine (ks _).mono ?_
      rintro e w' ⟨rfl, hw⟩
      exact hK _ _ (by first | exact belowOfEq hw | exact hw) rfl
    refine steps_cons rfl ?_ ?_
    · intro a w hR K hK
      obtain ⟨v21, e21, _, q21⟩ := hR.val 1 21 (by kernel_rfl) (by kernel_rfl)
      obtain rfl : v21 = (.int .i64 (D.room : Int)) := q21
      obtain ⟨v23, e23, _, q23⟩ := hR.val 3 23 (by kernel_rfl) (by kernel_rfl)
      obtain rfl : v23 = (.int .i64 SZ) := q23
      rw [if_pos (wanted_none rfl)]
      have hB := hR.bel
      clear hR
      go_simp
      exact hK _ _ (belowSame _) rfl
    refine steps_cons rfl ?_ ?_
    · intro a w hR K hK
      obtain ⟨v24, e24, _, q24⟩ := hR.val 4 24 (by kernel_rfl) (by kernel_rfl)
      obtain rfl : v24 = (.bool false) := q24
      rw [if_pos (wanted_none rfl)]
      have hB := hR.bel
      clear hR
      go_simp
      exact hK _ _ (belowSame _) rfl
    exact steps_nil
  · intro a' w' hF
    obtain ⟨v19, e19, _, q19⟩ := hF.val 5 19 (by decide) (by kernel_rfl)
    obtain rfl : v19 = (.bool false) := q19
    have hB := belowUndrew hF.bel
    have hf := hF.frame
    rw [show dsts _ = [20, 21, 22, 23, 24, 19] from by kernel_rfl] at hf
    obtain ⟨z20, h20⟩ : ∃ z, a'.tmps.getD 20 undef = z := ⟨_, rfl⟩
    obtain ⟨z21, h21⟩ : ∃ z, a'.tmps.getD 21 undef = z := ⟨_, rfl⟩
    obtain ⟨z22, h22⟩ : ∃ z, a'.tmps.getD 22 undef = z := ⟨_, rfl⟩
    obtain ⟨z23, h23⟩ : ∃ z, a'.tmps.getD 23 undef = z := ⟨_, rfl⟩
    obtain ⟨z24, h24⟩ : ∃ z, a'.tmps.getD 24 undef = z := ⟨_, rfl⟩
    simp only [List.foldl_cons, List.foldl_nil, h20, h21, h22, h23, h24, e19] at hf
    simp only [List.setIfInBounds_toArray, List.set_cons_zero, List.set_cons_succ] at hf
    clear hF e19 h20 h21 h22 h23 h24
    subst hf
    have HO2 := Lib.hid (HO1.out.then_ hB)
    clear hB HO1
    go_wp2_with fail
    go_loopw [5, 6, 7] (fun i _ _ wr => ∃ k : Nat, i = .int .i64 (k : Int) ∧ k ≤ 17 ∧ Hid (Own2 w0 g N (fK D k) x0 TSh (scells s) wr)) (fun i _ _ _ => 17 - (intOf i).toNat)
    case atStart => exact ⟨0, rfl, by omega, HO2⟩
    case round =>
      obtain ⟨k, rfl, hk, HW⟩ := hrel
      by_cases hlt : k < 17
      · obtain ⟨f1, f2⟩ := KST.out k hlt
        have kf := own2_fence HW.out (k : Int) (by omega)
        rw [f1] at kf
        have kp := fun W (h : Own2 w0 g N (fenceK (fK D k) (k : Int)) x0 TSh (scells s) W) => own2_put h (k : Int) 0 (by omega)
        rw [f2] at kp
        have e1 : IntKind.i64.wrap ((k : Int) + 1) = (k : Int) + 1 := IntWalk.i64_in _ (by omega)
        have hs : fK D (k + 1) = putK (fenceK (fK D k) (k : Int)) (k : Int) 0 := rfl
        have HS := Lib.hid hs
        clear f1 f2 hs
        go_wp2_with (first
          | (go_at_call 24; refine kf.mono ?_; rintro x w4 ⟨rfl, ho4⟩; have H4 := Lib.hid ho4; clear ho4)
          | (go_at_call 25; refine (kp _ H4.out).mono ?_; rintro x w5 ⟨rfl, ho5⟩; have H5 := Lib.hid ho5; clear ho5))
        go_roundw
        case rel => exact ⟨k + 1, by go_num, by omega, Lib.hid (by rw [HS.out]; exact H5.out)⟩
        case measure => simp [intOf]; omega
      · obtain rfl : k = 17 := by omega
        have kla := own_last HW.out.own
        rw [r4] at kla
        have e1 : IntKind.u64.wrap (D.last + 1) = D.last + 1 := IntWalk.u64_in _ (by omega)
        go_wp2_with (first
          | (go_at_call 26; refine kla.mono ?_; rintro x w4 ⟨rfl, rfl⟩)
          | (go_at_call 27; refine (kadm _ _ HW.out).mono ?_; rintro x w5 ⟨rfl, ho5⟩; have bk := ho5.blk; have c0 : w5.cell? ⟨x0, 0, none⟩ = some (.int .i64 s.n) := bk.cell 0; have c1 : w5.cell? ⟨x0, 1, none⟩ = some (.int .i64 s.b) := bk.cell 1; have c2 : w5.cell? ⟨x0, 2, none⟩ = some (.int .i64 s.l) := bk.cell 2; have c3 : w5.cell? ⟨x0, 3, none⟩ = some (.int .i64 s.c) := bk.cell 3; have c4 : w5.cell? ⟨x0, 4, none⟩ = some (.int .i64 s.e) := bk.cell 4; have H5 := Lib.hid ho5; clear ho5 bk)
          | (go_at_call 28; refine (klay _ H5.out.own).mono ?_; rintro x w6 ⟨rfl, ho6⟩; have H6 := Lib.hid ho6; clear ho6)
          | (go_at_call 24; refine (kfen _ H6.out).mono ?_; rintro x w7 ⟨rfl, ho7⟩; have H7 := Lib.hid ho7; clear ho7))
        exact end_ret (t := 4) (v := .int .i64 0) (by kernel_rfl) rfl rfl ⟨rfl, H7.out⟩
end Go.Proofs.Ytacogpogplionaa.SU
