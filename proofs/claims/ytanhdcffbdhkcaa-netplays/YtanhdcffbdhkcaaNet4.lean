/- The net: Cut. No condition. -/
import Derived.Test.YtanhdcffbdhkcaaNet3
import Derived.Test.YtanhdcffbdhkcaaRegTail
import Derived.Deep.CutBlock
import Derived.Deep.Cut
import Derived.WalkSpells
import Derived.Carry
namespace Go.Proofs.Ytanhdcffbdhkcaa.NT
set_option maxRecDepth 100000
open Go.RowKit Go.Proofs.Ytanhdcffbdhkcaa.RP Go.Proofs.Ytanhdcffbdhkcaa.CM
set_option linter.unusedVariables false

section
variable {P : Program} {w : World} {b n : Nat} {C : Int → Int → Bool}
theorem keeps_of_grown {w w' : World} {b : Nat} (h : w.grownBy w' (some b)) : Keeps (only b) w w' := (Keeps.refl (only b) w).grown h (fun k hk _ => by injection hk with hk; exact hk.symm)
theorem wp_delete_cut {o : Oper} {ac : Act} {K : Act → World → Prop} {Q : Exit → Act → World → Prop} (m x : Operand) {p q : Int} (hop : o.op = Op.call { callee := Callee.builtin Builtin.delete, args := #[m, x], argTypes := #[45, 63] })
    (hm : ac.eval m = .map (some b)) (hx : ac.eval x = pairV p q) (wp : Wf p) (wq : Wf q) (h : CutsAt w b n C) (hK : ∀ w', CutsAt w' b n (withOut C p q) → Keeps (only b) w w' → K (ac.put o.dst (.tuple #[])) w') : o.wp Try.prog ac w K Q := by
  obtain ⟨D, hown, hv⟩ := h
  obtain ⟨w', hrun, r1, r2⟩ := hown.drop law Try.underlying45 (pair_key wp wq) o.type
  unfold Oper.wp
  simp [execOp, hop, resolve, invoke, builtin, hm, hx, hrun, Result.andThen]
  exact hK _ ⟨_, r1, view_del hv wp wq⟩ (keeps_of_grown r2.grown)
theorem wp_store_cut {o : Oper} {ac : Act} {K : Act → World → Prop} {Q : Exit → Act → World → Prop} (m x v : Operand) {p q : Int} (hop : o.op = Op.mapUpdate 45 m x v)
    (hm : ac.eval m = .map (some b)) (hx : ac.eval x = pairV p q) (hvv : ac.eval v = .agg #[]) (wp : Wf p) (wq : Wf q) (h : CutsAt w b n C) (hn : n < maxLen) (hK : ∀ w', CutsAt w' b (n + 1) (withIn C p q) → Keeps (only b) w w' → K (ac.put o.dst undef) w') : o.wp Try.prog ac w K Q := by
  obtain ⟨D, hown, hv⟩ := h
  obtain ⟨w', hrun, r1, r2⟩ := hown.store law Try.underlying45 hn (pair_key wp wq) (val := .agg #[]) unitElem_mk
  unfold Oper.wp
  simp [execOp, hop, hm, hx, hvv, hrun, Result.andThen]
  exact hK _ ⟨_, r1, view_put hown.isMap hv wp wq _⟩ (keeps_of_grown r2.grown)
end
section
variable {w W w5 : World} {B g N N' n b : Nat} {lp mp : Option Nat} {a : Option Addr} {c : Nat} {xs : List Pk} {C C' : Int → Int → Bool}
theorem NetAt.recut (h : NetAt W B g lp a c (some b) N xs C) (k : Keeps (only b) W w5) (hc : CutsAt w5 b n C') (hn : n ≤ N') : NetAt w5 B g lp a c (some b) N' xs C' := by
  have hb : B ≤ b ∧ ∃ n, CutsAt W b n C := by
    rcases h.cuts with ⟨h0, _⟩ | ⟨b', n', h0, h1, _, h2⟩
    · cases h0
    · injection h0 with h0; subst h0; exact ⟨h1, n', h2⟩
  obtain ⟨hb1, n1, h2⟩ := hb
  refine ⟨h.blk.keeps k (fun e => h2.blk h.blk e.symm), h.ring.keeps k (fun i hi hs => ?_), .inr ⟨b, n, rfl, hb1, hn, hc⟩, h.ge⟩
  have hs' : i = b := hs
  subst hs'
  rcases h.ring with ⟨h0, h1, _⟩ | ⟨r, h0, hr⟩
  · rcases hi with hi | hi
    · rw [h0] at hi; cases hi
    · rw [h1] at hi; simp [Value.ownBlock] at hi
  · rcases hi with hi | hi
    · rw [h0] at hi; injection hi with hi; subst hi; exact h2.blk hr.blk rfl
    · obtain ⟨es, clock, ho⟩ := CutsAt.obj h2
      exact own_map hr.own ho (by rw [own_blk]; exact hi)
/-- What a Cut begins with: the set is there. -/
def Begun (w : World) (B g : Nat) (lp : Option Nat) (a : Option Addr) (c : Nat) (mp : Option Nat) (N : Nat) (xs : List Pk) (C : Int → Int → Bool) (b n : Nat) (W : World) : Prop :=
  NetAt W B g lp a c (some b) N xs C ∧ Keeps (netF g lp a mp) w W ∧ Grows w (netF g lp a mp) (netF g lp a (some b))
theorem begun_some (h : NetAt w B g lp a c (some b) N xs C) : ∃ n, n ≤ N ∧ CutsAt w b n C ∧ Begun w B g lp a c (some b) N xs C b n w := by
  rcases h.cuts with ⟨h0, _⟩ | ⟨b', n', h0, h1, h3, h2⟩
  · cases h0
  · injection h0 with h0; subst h0; exact ⟨n', h3, h2, h, Keeps.refl _ _, Grows.refl _ _⟩
theorem begun_none (h : NetAt w B g lp a c none N xs C) : ∃ n, n ≤ N ∧ CutsAt ((w.alloc (.map #[] 0)).setCell ⟨g, 1, none⟩ (.map (some w.heap.size))) w.heap.size n C ∧
    Begun w B g lp a c none N xs C w.heap.size n ((w.alloc (.map #[] 0)).setCell ⟨g, 1, none⟩ (.map (some w.heap.size))) := by
  have hC : C = fun _ _ => false := by
    rcases h.cuts with ⟨_, h1⟩ | ⟨b', n', h0, _⟩
    · exact h1
    · cases h0
  subst hC
  have h1 := h.alloc (.map #[] 0)
  have hlt := h.blk.lt
  have hc := (CutsAt.made w).keeps (keep1 (w.alloc (.map #[] 0)) g 1 (.map (some w.heap.size))) (fun e => by have : w.heap.size = g := e; omega)
  refine ⟨0, Nat.zero_le _, hc, ⟨?_, ?_, .inr ⟨w.heap.size, 0, rfl, h.base, Nat.zero_le _, hc⟩, h.ge⟩, ?_, fun k hk => ?_⟩
  · exact h1.blk.set_ 1 _
  · refine h1.ring.keeps (keep1 _ g 1 _) (fun k hk hs => ?_)
    have hs' : k = g := hs
    subst hs'
    rcases h.ring with ⟨h0, h2, _⟩ | ⟨r, h0, hr⟩
    · rcases hk with hk | hk
      · rw [h0] at hk; cases hk
      · rw [h2] at hk; simp [Value.ownBlock] at hk
    · rcases hk with hk | hk
      · rw [h0] at hk; injection hk with hk; exact h.blk.ne_ hr.blk (by decide) hk.symm
      · have := own_ne hr.own h.blk (show TP ≠ TN by decide); rw [own_blk] at this; exact this hk
  · exact ((Keeps.refl _ w).alloc _).setCell (fun _ => .inl rfl) _
  · rcases hk with hk | hk | hk | hk
    · exact .inl (.inl hk)
    · exact .inl (.inr (.inl hk))
    · exact .inl (.inr (.inr (.inl hk)))
    · injection hk with hk; exact .inr (by omega)
theorem begun_free (h : Begun w B g lp a c mp N xs C b n W) : ∀ i, i < w.heap.size → only b i → netF g lp a mp i := by
  intro i hi hs
  have hs' : i = b := hs
  subst hs'
  rcases h.2.2 i (.inr (.inr (.inr rfl))) with h4 | h4
  · exact h4
  · omega
theorem wf_min {x y : Int} (wx : Wf x) (wy : Wf y) : Wf (min x y) ∧ Wf (max x y) := by
  unfold Wf at *
  have h1 := bounds_i64 wx
  have h2 := bounds_i64 wy
  exact ⟨WalkArith.wf_i64 (by omega), WalkArith.wf_i64 (by omega)⟩
set_option maxHeartbeats 1000000 in
theorem cut_off (h : NetAt w B g lp a c mp N xs C) (x y : Int) (wx : Wf x) (wy : Wf y) (hN : N ≤ 1000000) :
    Calls Try.prog 15 #[.pointer (some ⟨g, 0, none⟩), .int .i64 x, .int .i64 y, .bool false] w fun e w' => e = .returned (.tuple #[]) ∧ NetOut w B g lp a mp (N + 1) xs (withOut C (min x y) (max x y)) w' := by
  have WX := Lib.hid (wf_min wx wy)
  have hgl : g < w.heap.size := h.blk.lt
  have hbk := Lib.hid h
  cases mp with
  | some b =>
    obtain ⟨n, hn, hcut, hbeg⟩ := begun_some h
    have c1 : w.cell? ⟨g, 1, none⟩ = some (.map (some b)) := h.blk.cell 1
    have hem := fun W => _root_.Go.run_eql_map_nil (P := Try.prog) W 45 63 61 (some b) Try.underlying45
    have NC := Lib.hid hcut
    have NW := Lib.hid hbeg
    have HC := Lib.hid (hbeg.1.blk.cell 1)
    have HLT : Hid (g < w.heap.size) := hbeg.1.blk.lt
    have HBF := Lib.hid (begun_free hbeg)
    have HNB : Hid (n < maxLen) := by { show n < maxLen; unfold maxLen; omega }
    have HNB0 : Hid (n ≤ N + 1) := by { show n ≤ N + 1; omega }
    have HNB1 : Hid (n + 1 ≤ N + 1) := by { show n + 1 ≤ N + 1; omega }
    clear h hbk hcut hbeg
    go_enter Try.func15, Try.ntmps15
    go_upto_region 3 with fail
    unfold Begun at NW
    clear c1 hem
    refine wp_region_tail 7 (fun i' v' w' => ([(fun v' _ => v' = (.pointer (some ⟨g, 0, none⟩))), (fun v' _ => v' = (.pointer (some ⟨g, 0, none⟩))), (fun v' _ => v' = (.pointer (some ⟨g, 1, none⟩))), (fun v' _ => v' = (.map (some b))), (fun v' _ => v' = (.int .i64 x)), (fun v' _ => v' = (.int .i64 y)), (fun v' _ => v' = (pairV (min x y) (max x y)))] : List (Value → World → Prop)).getD i' (fun _ _ => True) v' w') (by kernel_rfl) (by rfl) (by rfl) (by kernel_rfl) (by kernel_rfl) (stab_list (by
        repeat (first | exact allStab_nil | refine allStab_cons (stab_eq _) ?_ | refine allStab_cons (stab_slice _ _) ?_ | (refine allStab_cons ?_ ?_; (with_reducible assumption))))) ?_ ?_
    · simp only [List.take_succ_cons, List.take_zero]
      refine steps_cons rfl ?_ ?_
      · intro a w hR K hK
        have e0 : a.tmps.getD 0 undef = (.pointer (some ⟨g, 0, none⟩)) := hR.old 0 (by kernel_rfl) rfl
        rw [if_pos (wanted_none rfl)]
        have hB := hR.bel
        clear hR
        go_simp
        exact hK _ _ (belowSame _) rfl
      refine steps_cons rfl ?_ ?_
      · intro a w hR K hK
        obtain ⟨v19, e19, _, q19⟩ := hR.val 0 19 (by kernel_rfl) (by kernel_rfl)
        obtain rfl : v19 = (.pointer (some ⟨g, 0, none⟩)) := q19
        rw [if_pos (wanted_none rfl)]
        have hB := hR.bel
        clear hR
        go_simp
        exact hK _ _ (belowSame _) rfl
      refine steps_cons rfl ?_ ?_
      · intro a w hR K hK
        obtain ⟨v20, e20, _, q20⟩ := hR.val 1 20 (by kernel_rfl) (by kernel_rfl)
        obtain rfl : v20 = (.pointer (some ⟨g, 0, none⟩)) := q20
        rw [if_pos (wanted_none rfl)]
        have hB := hR.bel
        clear hR
        go_simp
        exact hK _ _ (belowSame _) rfl
      refine steps_cons rfl ?_ ?_
      · intro a w hR K hK
        obtain ⟨v21, e21, _, q21⟩ := hR.val 2 21 (by kernel_rfl) (by kernel_rfl)
        obtain rfl : v21 = (.pointer (some ⟨g, 1, none⟩)) := q21
        rw [if_pos (wanted_none rfl)]
        have hc : w.cell? ⟨g, 1, none⟩ = some (.map (some b)) := (hR.bel.cell (p := ⟨g, 1, none⟩) HLT.out).trans HC.out
        clear hR
        go_simp
        exact hK _ _ (belowSame _) rfl
      refine steps_cons rfl ?_ ?_
      · intro a w hR K hK
        have e1 : a.tmps.getD 1 undef = (.int .i64 x) := hR.old 1 (by kernel_rfl) rfl
        rw [if_pos (wanted_none rfl)]
        have hB := hR.bel
        clear hR
        go_simp
        exact hK _ _ (belowSame _) rfl
      refine steps_cons rfl ?_ ?_
      · intro a w hR K hK
        have e2 : a.tmps.getD 2 undef = (.int .i64 y) := hR.old 2 (by kernel_rfl) rfl
        rw [if_pos (wanted_none rfl)]
        have hB := hR.bel
        clear hR
        go_simp
        exact hK _ _ (belowSame _) rfl
      refine steps_cons rfl ?_ ?_
      · intro a w hR K hK
        obtain ⟨v23, e23, _, q23⟩ := hR.val 4 23 (by kernel_rfl) (by kernel_rfl)
        obtain rfl : v23 = (.int .i64 x) := q23
        obtain ⟨v24, e24, _, q24⟩ := hR.val 5 24 (by kernel_rfl) (by kernel_rfl)
        obtain rfl : v24 = (.int .i64 y) := q24
        rw [if_pos (wanted_none rfl)]
        have hB := hR.bel
        clear hR
        go_simp
        refine (ends_any x y _).mono ?_
        rintro e w' ⟨rfl, hw⟩
        exact hK _ _ (by first | exact belowOfEq hw | exact hw) rfl
      exact steps_nil
    · intro a w' hR K hK
      obtain ⟨v22, e22, _, q22⟩ := hR.val 3 22 (by decide) (by kernel_rfl)
      obtain rfl : v22 = (.map (some b)) := q22
      obtain ⟨v25, e25, _, q25⟩ := hR.val 6 25 (by decide) (by kernel_rfl)
      obtain rfl : v25 = (pairV (min x y) (max x y)) := q25
      rw [if_pos (wanted_none rfl)]
      have hB := belowUndrew hR.bel
      have hf := hR.frame
      rw [show dsts _ = [19, 20, 21, 22, 23, 24, 25] from by kernel_rfl] at hf
      obtain ⟨z19, h19⟩ : ∃ z, a.tmps.getD 19 undef = z := ⟨_, rfl⟩
      obtain ⟨z20, h20⟩ : ∃ z, a.tmps.getD 20 undef = z := ⟨_, rfl⟩
      obtain ⟨z21, h21⟩ : ∃ z, a.tmps.getD 21 undef = z := ⟨_, rfl⟩
      obtain ⟨z22, h22⟩ : ∃ z, a.tmps.getD 22 undef = z := ⟨_, rfl⟩
      obtain ⟨z23, h23⟩ : ∃ z, a.tmps.getD 23 undef = z := ⟨_, rfl⟩
      obtain ⟨z24, h24⟩ : ∃ z, a.tmps.getD 24 undef = z := ⟨_, rfl⟩
      obtain ⟨z25, h25⟩ : ∃ z, a.tmps.getD 25 undef = z := ⟨_, rfl⟩
      simp only [List.foldl_cons, List.foldl_nil, h19, h20, h21, h22, h23, h24, h25] at hf
      simp only [List.setIfInBounds_toArray, List.set_cons_zero, List.set_cons_succ] at hf
      have hN := Lib.hid (NC.out.keeps (Keeps.of_below hB (fun _ => False)) (fun h => h))
      have hKB := Lib.hid (Keeps.of_below hB (only b))
      clear hR hB h19 h20 h21 h22 h23 h24 h25
      refine wp_delete_cut (.tmp 22) (.tmp 25) rfl e22 e25 WX.out.1 WX.out.2 hN.out ?_
      intro w5 h5 k5
      have H5 := Lib.hid (And.intro h5 (Keeps.trans hKB.out k5 (fun _ _ h => h)))
      clear h5 k5
      refine hK _ _ ?_
      clear hK K hN hKB e22 e25
      subst hf
      go_wp2_with fail
      refine bodyPost_end (results_none rfl _ _ _) rfl ?_
      exact ⟨rfl, lp, a, c, some b, NW.out.1.recut H5.out.2 H5.out.1 HNB0.out, NW.out.2.1.trans H5.out.2 (fun i hi hs => HBF.out i hi hs), NW.out.2.2⟩
  | none =>
    obtain ⟨n, hn, hcut, hbeg⟩ := begun_none h
    rw [World.setCell_alloc_past (.map #[] 0) g 1 (.map (some w.heap.size)) hgl] at hcut hbeg
    have c1 : w.cell? ⟨g, 1, none⟩ = some (.map none) := h.blk.cell 1
    have f1 := h.blk.frozen 1
    have hmm := @run_makeMap Try.prog
    have hem := fun W => _root_.Go.run_eql_map_nil (P := Try.prog) W 45 63 61 none Try.underlying45
    have a1 : (w.alloc (.map #[] 0)).cell? ⟨g, 1, none⟩ = some (.map none) := (h.alloc (.map #[] 0)).blk.cell 1
    have a2 : (w.alloc (.map #[] 0)).frozen? ⟨g, 1, none⟩ = false := (h.alloc (.map #[] 0)).blk.frozen 1
    have NC := Lib.hid hcut
    have NW := Lib.hid hbeg
    have HC := Lib.hid (hbeg.1.blk.cell 1)
    have HLT : Hid (g < ((w.setCell ⟨g, 1, none⟩ (.map (some w.heap.size))).alloc (.map #[] 0)).heap.size) := hbeg.1.blk.lt
    have HBF := Lib.hid (begun_free hbeg)
    have HNB : Hid (n < maxLen) := by { show n < maxLen; unfold maxLen; omega }
    have HNB0 : Hid (n ≤ N + 1) := by { show n ≤ N + 1; omega }
    have HNB1 : Hid (n + 1 ≤ N + 1) := by { show n + 1 ≤ N + 1; omega }
    clear h hbk hcut hbeg
    go_enter Try.func15, Try.ntmps15
    go_upto_region 3 with fail
    unfold Begun at NW
    clear c1 f1 hmm a1 a2 hem
    obtain ⟨W, hW⟩ : ∃ W, ((w.setCell ⟨g, 1, none⟩ (.map (some w.heap.size))).alloc (.map #[] 0)) = W := ⟨_, rfl⟩
    rw [hW] at NC NW HC HLT ⊢
    clear hW
    obtain ⟨b, hbb⟩ : ∃ b, w.heap.size = b := ⟨_, rfl⟩
    have HBF2 := Lib.hid (show ∀ i, i < w.heap.size → only b i → netF g lp a none i from fun i hi hs => HBF.out i hi (show i = w.heap.size by rw [hbb]; exact hs))
    clear HBF
    rw [hbb] at NC NW HC
    have HBF := HBF2
    clear HBF2
    clear hbb
    refine wp_region_tail 7 (fun i' v' w' => ([(fun v' _ => v' = (.pointer (some ⟨g, 0, none⟩))), (fun v' _ => v' = (.pointer (some ⟨g, 0, none⟩))), (fun v' _ => v' = (.pointer (some ⟨g, 1, none⟩))), (fun v' _ => v' = (.map (some b))), (fun v' _ => v' = (.int .i64 x)), (fun v' _ => v' = (.int .i64 y)), (fun v' _ => v' = (pairV (min x y) (max x y)))] : List (Value → World → Prop)).getD i' (fun _ _ => True) v' w') (by kernel_rfl) (by rfl) (by rfl) (by kernel_rfl) (by kernel_rfl) (stab_list (by
        repeat (first | exact allStab_nil | refine allStab_cons (stab_eq _) ?_ | refine allStab_cons (stab_slice _ _) ?_ | (refine allStab_cons ?_ ?_; (with_reducible assumption))))) ?_ ?_
    · simp only [List.take_succ_cons, List.take_zero]
      refine steps_cons rfl ?_ ?_
      · intro a w hR K hK
        have e0 : a.tmps.getD 0 undef = (.pointer (some ⟨g, 0, none⟩)) := hR.old 0 (by kernel_rfl) rfl
        rw [if_pos (wanted_none rfl)]
        have hB := hR.bel
        clear hR
        go_simp
        exact hK _ _ (belowSame _) rfl
      refine steps_cons rfl ?_ ?_
      · intro a w hR K hK
        obtain ⟨v19, e19, _, q19⟩ := hR.val 0 19 (by kernel_rfl) (by kernel_rfl)
        obtain rfl : v19 = (.pointer (some ⟨g, 0, none⟩)) := q19
        rw [if_pos (wanted_none rfl)]
        have hB := hR.bel
        clear hR
        go_simp
        exact hK _ _ (belowSame _) rfl
      refine steps_cons rfl ?_ ?_
      · intro a w hR K hK
        obtain ⟨v20, e20, _, q20⟩ := hR.val 1 20 (by kernel_rfl) (by kernel_rfl)
        obtain rfl : v20 = (.pointer (some ⟨g, 0, none⟩)) := q20
        rw [if_pos (wanted_none rfl)]
        have hB := hR.bel
        clear hR
        go_simp
        exact hK _ _ (belowSame _) rfl
      refine steps_cons rfl ?_ ?_
      · intro a w hR K hK
        obtain ⟨v21, e21, _, q21⟩ := hR.val 2 21 (by kernel_rfl) (by kernel_rfl)
        obtain rfl : v21 = (.pointer (some ⟨g, 1, none⟩)) := q21
        rw [if_pos (wanted_none rfl)]
        have hc : w.cell? ⟨g, 1, none⟩ = some (.map (some b)) := (hR.bel.cell (p := ⟨g, 1, none⟩) HLT.out).trans HC.out
        clear hR
        go_simp
        exact hK _ _ (belowSame _) rfl
      refine steps_cons rfl ?_ ?_
      · intro a w hR K hK
        have e1 : a.tmps.getD 1 undef = (.int .i64 x) := hR.old 1 (by kernel_rfl) rfl
        rw [if_pos (wanted_none rfl)]
        have hB := hR.bel
        clear hR
        go_simp
        exact hK _ _ (belowSame _) rfl
      refine steps_cons rfl ?_ ?_
      · intro a w hR K hK
        have e2 : a.tmps.getD 2 undef = (.int .i64 y) := hR.old 2 (by kernel_rfl) rfl
        rw [if_pos (wanted_none rfl)]
        have hB := hR.bel
        clear hR
        go_simp
        exact hK _ _ (belowSame _) rfl
      refine steps_cons rfl ?_ ?_
      · intro a w hR K hK
        obtain ⟨v23, e23, _, q23⟩ := hR.val 4 23 (by kernel_rfl) (by kernel_rfl)
        obtain rfl : v23 = (.int .i64 x) := q23
        obtain ⟨v24, e24, _, q24⟩ := hR.val 5 24 (by kernel_rfl) (by kernel_rfl)
        obtain rfl : v24 = (.int .i64 y) := q24
        rw [if_pos (wanted_none rfl)]
        have hB := hR.bel
        clear hR
        go_simp
        refine (ends_any x y _).mono ?_
        rintro e w' ⟨rfl, hw⟩
        exact hK _ _ (by first | exact belowOfEq hw | exact hw) rfl
      exact steps_nil
    · intro a w' hR K hK
      obtain ⟨v22, e22, _, q22⟩ := hR.val 3 22 (by decide) (by kernel_rfl)
      obtain rfl : v22 = (.map (some b)) := q22
      obtain ⟨v25, e25, _, q25⟩ := hR.val 6 25 (by decide) (by kernel_rfl)
      obtain rfl : v25 = (pairV (min x y) (max x y)) := q25
      rw [if_pos (wanted_none rfl)]
      have hB := belowUndrew hR.bel
      have hf := hR.frame
      rw [show dsts _ = [19, 20, 21, 22, 23, 24, 25] from by kernel_rfl] at hf
      obtain ⟨z19, h19⟩ : ∃ z, a.tmps.getD 19 undef = z := ⟨_, rfl⟩
      obtain ⟨z20, h20⟩ : ∃ z, a.tmps.getD 20 undef = z := ⟨_, rfl⟩
      obtain ⟨z21, h21⟩ : ∃ z, a.tmps.getD 21 undef = z := ⟨_, rfl⟩
      obtain ⟨z22, h22⟩ : ∃ z, a.tmps.getD 22 undef = z := ⟨_, rfl⟩
      obtain ⟨z23, h23⟩ : ∃ z, a.tmps.getD 23 undef = z := ⟨_, rfl⟩
      obtain ⟨z24, h24⟩ : ∃ z, a.tmps.getD 24 undef = z := ⟨_, rfl⟩
      obtain ⟨z25, h25⟩ : ∃ z, a.tmps.getD 25 undef = z := ⟨_, rfl⟩
      simp only [List.foldl_cons, List.foldl_nil, h19, h20, h21, h22, h23, h24, h25] at hf
      simp only [List.setIfInBounds_toArray, List.set_cons_zero, List.set_cons_succ] at hf
      have hN := Lib.hid (NC.out.keeps (Keeps.of_below hB (fun _ => False)) (fun h => h))
      have hKB := Lib.hid (Keeps.of_below hB (only b))
      clear hR hB h19 h20 h21 h22 h23 h24 h25
      refine wp_delete_cut (.tmp 22) (.tmp 25) rfl e22 e25 WX.out.1 WX.out.2 hN.out ?_
      intro w5 h5 k5
      have H5 := Lib.hid (And.intro h5 (Keeps.trans hKB.out k5 (fun _ _ h => h)))
      clear h5 k5
      refine hK _ _ ?_
      clear hK K hN hKB e22 e25
      subst hf
      go_wp2_with fail
      refine bodyPost_end (results_none rfl _ _ _) rfl ?_
      exact ⟨rfl, lp, a, c, some b, NW.out.1.recut H5.out.2 H5.out.1 HNB0.out, NW.out.2.1.trans H5.out.2 (fun i hi hs => HBF.out i hi hs), NW.out.2.2⟩
set_option maxHeartbeats 1000000 in
theorem cut_on (h : NetAt w B g lp a c mp N xs C) (x y : Int) (wx : Wf x) (wy : Wf y) (hN : N ≤ 1000000) :
    Calls Try.prog 15 #[.pointer (some ⟨g, 0, none⟩), .int .i64 x, .int .i64 y, .bool true] w fun e w' => e = .returned (.tuple #[]) ∧ NetOut w B g lp a mp (N + 1) xs (withIn (withOut C (min x y) (max x y)) (min x y) (max x y)) w' := by
  have WX := Lib.hid (wf_min wx wy)
  have hgl : g < w.heap.size := h.blk.lt
  have hbk := Lib.hid h
  cases mp with
  | some b =>
    obtain ⟨n, hn, hcut, hbeg⟩ := begun_some h
    have c1 : w.cell? ⟨g, 1, none⟩ = some (.map (some b)) := h.blk.cell 1
    have hem := fun W => _root_.Go.run_eql_map_nil (P := Try.prog) W 45 63 61 (some b) Try.underlying45
    have NC := Lib.hid hcut
    have NW := Lib.hid hbeg
    have HC := Lib.hid (hbeg.1.blk.cell 1)
    have HLT : Hid (g < w.heap.size) := hbeg.1.blk.lt
    have HBF := Lib.hid (begun_free hbeg)
    have HNB : Hid (n < maxLen) := by { show n < maxLen; unfold maxLen; omega }
    have HNB0 : Hid (n ≤ N + 1) := by { show n ≤ N + 1; omega }
    have HNB1 : Hid (n + 1 ≤ N + 1) := by { show n + 1 ≤ N + 1; omega }
    clear h hbk hcut hbeg
    go_enter Try.func15, Try.ntmps15
    go_upto_region 3 with fail
    unfold Begun at NW
    clear c1 hem
    refine wp_region_tail 7 (fun i' v' w' => ([(fun v' _ => v' = (.pointer (some ⟨g, 0, none⟩))), (fun v' _ => v' = (.pointer (some ⟨g, 0, none⟩))), (fun v' _ => v' = (.pointer (some ⟨g, 1, none⟩))), (fun v' _ => v' = (.map (some b))), (fun v' _ => v' = (.int .i64 x)), (fun v' _ => v' = (.int .i64 y)), (fun v' _ => v' = (pairV (min x y) (max x y)))] : List (Value → World → Prop)).getD i' (fun _ _ => True) v' w') (by kernel_rfl) (by rfl) (by rfl) (by kernel_rfl) (by kernel_rfl) (stab_list (by
        repeat (first | exact allStab_nil | refine allStab_cons (stab_eq _) ?_ | refine allStab_cons (stab_slice _ _) ?_ | (refine allStab_cons ?_ ?_; (with_reducible assumption))))) ?_ ?_
    · simp only [List.take_succ_cons, List.take_zero]
      refine steps_cons rfl ?_ ?_
      · intro a w hR K hK
        have e0 : a.tmps.getD 0 undef = (.pointer (some ⟨g, 0, none⟩)) := hR.old 0 (by kernel_rfl) rfl
        rw [if_pos (wanted_none rfl)]
        have hB := hR.bel
        clear hR
        go_simp
        exact hK _ _ (belowSame _) rfl
      refine steps_cons rfl ?_ ?_
      · intro a w hR K hK
        obtain ⟨v19, e19, _, q19⟩ := hR.val 0 19 (by kernel_rfl) (by kernel_rfl)
        obtain rfl : v19 = (.pointer (some ⟨g, 0, none⟩)) := q19
        rw [if_pos (wanted_none rfl)]
        have hB := hR.bel
        clear hR
        go_simp
        exact hK _ _ (belowSame _) rfl
      refine steps_cons rfl ?_ ?_
      · intro a w hR K hK
        obtain ⟨v20, e20, _, q20⟩ := hR.val 1 20 (by kernel_rfl) (by kernel_rfl)
        obtain rfl : v20 = (.pointer (some ⟨g, 0, none⟩)) := q20
        rw [if_pos (wanted_none rfl)]
        have hB := hR.bel
        clear hR
        go_simp
        exact hK _ _ (belowSame _) rfl
      refine steps_cons rfl ?_ ?_
      · intro a w hR K hK
        obtain ⟨v21, e21, _, q21⟩ := hR.val 2 21 (by kernel_rfl) (by kernel_rfl)
        obtain rfl : v21 = (.pointer (some ⟨g, 1, none⟩)) := q21
        rw [if_pos (wanted_none rfl)]
        have hc : w.cell? ⟨g, 1, none⟩ = some (.map (some b)) := (hR.bel.cell (p := ⟨g, 1, none⟩) HLT.out).trans HC.out
        clear hR
        go_simp
        exact hK _ _ (belowSame _) rfl
      refine steps_cons rfl ?_ ?_
      · intro a w hR K hK
        have e1 : a.tmps.getD 1 undef = (.int .i64 x) := hR.old 1 (by kernel_rfl) rfl
        rw [if_pos (wanted_none rfl)]
        have hB := hR.bel
        clear hR
        go_simp
        exact hK _ _ (belowSame _) rfl
      refine steps_cons rfl ?_ ?_
      · intro a w hR K hK
        have e2 : a.tmps.getD 2 undef = (.int .i64 y) := hR.old 2 (by kernel_rfl) rfl
        rw [if_pos (wanted_none rfl)]
        have hB := hR.bel
        clear hR
        go_simp
        exact hK _ _ (belowSame _) rfl
      refine steps_cons rfl ?_ ?_
      · intro a w hR K hK
        obtain ⟨v23, e23, _, q23⟩ := hR.val 4 23 (by kernel_rfl) (by kernel_rfl)
        obtain rfl : v23 = (.int .i64 x) := q23
        obtain ⟨v24, e24, _, q24⟩ := hR.val 5 24 (by kernel_rfl) (by kernel_rfl)
        obtain rfl : v24 = (.int .i64 y) := q24
        rw [if_pos (wanted_none rfl)]
        have hB := hR.bel
        clear hR
        go_simp
        refine (ends_any x y _).mono ?_
        rintro e w' ⟨rfl, hw⟩
        exact hK _ _ (by first | exact belowOfEq hw | exact hw) rfl
      exact steps_nil
    · intro a w' hR K hK
      obtain ⟨v22, e22, _, q22⟩ := hR.val 3 22 (by decide) (by kernel_rfl)
      obtain rfl : v22 = (.map (some b)) := q22
      obtain ⟨v25, e25, _, q25⟩ := hR.val 6 25 (by decide) (by kernel_rfl)
      obtain rfl : v25 = (pairV (min x y) (max x y)) := q25
      rw [if_pos (wanted_none rfl)]
      have hB := belowUndrew hR.bel
      have hf := hR.frame
      rw [show dsts _ = [19, 20, 21, 22, 23, 24, 25] from by kernel_rfl] at hf
      obtain ⟨z19, h19⟩ : ∃ z, a.tmps.getD 19 undef = z := ⟨_, rfl⟩
      obtain ⟨z20, h20⟩ : ∃ z, a.tmps.getD 20 undef = z := ⟨_, rfl⟩
      obtain ⟨z21, h21⟩ : ∃ z, a.tmps.getD 21 undef = z := ⟨_, rfl⟩
      obtain ⟨z22, h22⟩ : ∃ z, a.tmps.getD 22 undef = z := ⟨_, rfl⟩
      obtain ⟨z23, h23⟩ : ∃ z, a.tmps.getD 23 undef = z := ⟨_, rfl⟩
      obtain ⟨z24, h24⟩ : ∃ z, a.tmps.getD 24 undef = z := ⟨_, rfl⟩
      obtain ⟨z25, h25⟩ : ∃ z, a.tmps.getD 25 undef = z := ⟨_, rfl⟩
      simp only [List.foldl_cons, List.foldl_nil, h19, h20, h21, h22, h23, h24, h25] at hf
      simp only [List.setIfInBounds_toArray, List.set_cons_zero, List.set_cons_succ] at hf
      have hN := Lib.hid (NC.out.keeps (Keeps.of_below hB (fun _ => False)) (fun h => h))
      have hKB := Lib.hid (Keeps.of_below hB (only b))
      clear hR hB h19 h20 h21 h22 h23 h24 h25
      refine wp_delete_cut (.tmp 22) (.tmp 25) rfl e22 e25 WX.out.1 WX.out.2 hN.out ?_
      intro w5 h5 k5
      have H5 := Lib.hid (And.intro h5 (Keeps.trans hKB.out k5 (fun _ _ h => h)))
      clear h5 k5
      refine hK _ _ ?_
      clear hK K hN hKB e22 e25
      subst hf
      have NC5 := Lib.hid H5.out.1
      have HLT5 : Hid (g < w5.heap.size) := Nat.lt_of_lt_of_le HLT.out H5.out.2.size
      have HC5 := Lib.hid ((NW.out.1.recut H5.out.2 H5.out.1 HNB0.out).blk.cell 1)
      go_wp2_with fail
      refine wp_region_tail 8 (fun i' v' w' => ([(fun v' _ => v' = (.pointer (some ⟨g, 0, none⟩))), (fun v' _ => v' = (.pointer (some ⟨g, 0, none⟩))), (fun v' _ => v' = (.pointer (some ⟨g, 1, none⟩))), (fun v' _ => v' = (.map (some b))), (fun v' _ => v' = (.int .i64 x)), (fun v' _ => v' = (.int .i64 y)), (fun v' _ => v' = (pairV (min x y) (max x y))), (fun v' _ => v' = (.agg #[]))] : List (Value → World → Prop)).getD i' (fun _ _ => True) v' w') (by kernel_rfl) (by rfl) (by rfl) (by kernel_rfl) (by kernel_rfl) (stab_list (by
          repeat (first | exact allStab_nil | refine allStab_cons (stab_eq _) ?_ | refine allStab_cons (stab_slice _ _) ?_ | (refine allStab_cons ?_ ?_; (with_reducible assumption))))) ?_ ?_
      · simp only [List.take_succ_cons, List.take_zero]
        refine steps_cons rfl ?_ ?_
        · intro a w hR K hK
          have e0 : a.tmps.getD 0 undef = (.pointer (some ⟨g, 0, none⟩)) := hR.old 0 (by kernel_rfl) rfl
          rw [if_pos (wanted_none rfl)]
          have hB := hR.bel
          clear hR
          go_simp
          exact hK _ _ (belowSame _) rfl
        refine steps_cons rfl ?_ ?_
        · intro a w hR K hK
          obtain ⟨v27, e27, _, q27⟩ := hR.val 0 27 (by kernel_rfl) (by kernel_rfl)
          obtain rfl : v27 = (.pointer (some ⟨g, 0, none⟩)) := q27
          rw [if_pos (wanted_none rfl)]
          have hB := hR.bel
          clear hR
          go_simp
          exact hK _ _ (belowSame _) rfl
        refine steps_cons rfl ?_ ?_
        · intro a w hR K hK
          obtain ⟨v28, e28, _, q28⟩ := hR.val 1 28 (by kernel_rfl) (by kernel_rfl)
          obtain rfl : v28 = (.pointer (some ⟨g, 0, none⟩)) := q28
          rw [if_pos (wanted_none rfl)]
          have hB := hR.bel
          clear hR
          go_simp
          exact hK _ _ (belowSame _) rfl
        refine steps_cons rfl ?_ ?_
        · intro a w hR K hK
          obtain ⟨v29, e29, _, q29⟩ := hR.val 2 29 (by kernel_rfl) (by kernel_rfl)
          obtain rfl : v29 = (.pointer (some ⟨g, 1, none⟩)) := q29
          rw [if_pos (wanted_none rfl)]
          have hc : w.cell? ⟨g, 1, none⟩ = some (.map (some b)) := (hR.bel.cell (p := ⟨g, 1, none⟩) HLT5.out).trans HC5.out
          clear hR
          go_simp
          exact hK _ _ (belowSame _) rfl
        refine steps_cons rfl ?_ ?_
        · intro a w hR K hK
          have e1 : a.tmps.getD 1 undef = (.int .i64 x) := hR.old 1 (by kernel_rfl) rfl
          rw [if_pos (wanted_none rfl)]
          have hB := hR.bel
          clear hR
          go_simp
          exact hK _ _ (belowSame _) rfl
        refine steps_cons rfl ?_ ?_
        · intro a w hR K hK
          have e2 : a.tmps.getD 2 undef = (.int .i64 y) := hR.old 2 (by kernel_rfl) rfl
          rw [if_pos (wanted_none rfl)]
          have hB := hR.bel
          clear hR
          go_simp
          exact hK _ _ (belowSame _) rfl
        refine steps_cons rfl ?_ ?_
        · intro a w hR K hK
          obtain ⟨v31, e31, _, q31⟩ := hR.val 4 31 (by kernel_rfl) (by kernel_rfl)
          obtain rfl : v31 = (.int .i64 x) := q31
          obtain ⟨v32, e32, _, q32⟩ := hR.val 5 32 (by kernel_rfl) (by kernel_rfl)
          obtain rfl : v32 = (.int .i64 y) := q32
          rw [if_pos (wanted_none rfl)]
          have hB := hR.bel
          clear hR
          go_simp
          refine (ends_any x y _).mono ?_
          rintro e w' ⟨rfl, hw⟩
          exact hK _ _ (by first | exact belowOfEq hw | exact hw) rfl
        refine steps_cons rfl ?_ ?_
        · intro a w hR K hK
          rw [if_pos (wanted_none rfl)]
          have hB := hR.bel
          clear hR
          go_simp
          exact hK _ _ (belowSame _) rfl
        exact steps_nil
      · intro a w' hR K hK
        obtain ⟨v30, e30, _, q30⟩ := hR.val 3 30 (by decide) (by kernel_rfl)
        obtain rfl : v30 = (.map (some b)) := q30
        obtain ⟨v33, e33, _, q33⟩ := hR.val 6 33 (by decide) (by kernel_rfl)
        obtain rfl : v33 = (pairV (min x y) (max x y)) := q33
        obtain ⟨v34, e34, _, q34⟩ := hR.val 7 34 (by decide) (by kernel_rfl)
        obtain rfl : v34 = (.agg #[]) := q34
        rw [if_pos (wanted_none rfl)]
        have hB := belowUndrew hR.bel
        have hf := hR.frame
        rw [show dsts _ = [27, 28, 29, 30, 31, 32, 33, 34] from by kernel_rfl] at hf
        obtain ⟨z27, h27⟩ : ∃ z, a.tmps.getD 27 undef = z := ⟨_, rfl⟩
        obtain ⟨z28, h28⟩ : ∃ z, a.tmps.getD 28 undef = z := ⟨_, rfl⟩
        obtain ⟨z29, h29⟩ : ∃ z, a.tmps.getD 29 undef = z := ⟨_, rfl⟩
        obtain ⟨z30, h30⟩ : ∃ z, a.tmps.getD 30 undef = z := ⟨_, rfl⟩
        obtain ⟨z31, h31⟩ : ∃ z, a.tmps.getD 31 undef = z := ⟨_, rfl⟩
        obtain ⟨z32, h32⟩ : ∃ z, a.tmps.getD 32 undef = z := ⟨_, rfl⟩
        obtain ⟨z33, h33⟩ : ∃ z, a.tmps.getD 33 undef = z := ⟨_, rfl⟩
        obtain ⟨z34, h34⟩ : ∃ z, a.tmps.getD 34 undef = z := ⟨_, rfl⟩
        simp only [List.foldl_cons, List.foldl_nil, h27, h28, h29, h30, h31, h32, h33, h34] at hf
        simp only [List.setIfInBounds_toArray, List.set_cons_zero, List.set_cons_succ] at hf
        have hN := Lib.hid (NC5.out.keeps (Keeps.of_below hB (fun _ => False)) (fun h => h))
        have hKB := Lib.hid (Keeps.of_below hB (only b))
        clear hR hB h27 h28 h29 h30 h31 h32 h33 h34
        refine wp_store_cut (.tmp 30) (.tmp 33) (.tmp 34) rfl e30 e33 e34 WX.out.1 WX.out.2 hN.out HNB.out ?_
        intro w6 h6 k6
        have H6 := Lib.hid (And.intro h6 (Keeps.trans hKB.out k6 (fun _ _ h => h)))
        clear h6 k6
        refine hK _ _ ?_
        clear hK K hN hKB e30 e33 e34
        subst hf
        go_wp2_with fail
        refine bodyPost_end (results_none rfl _ _ _) rfl ?_
        exact ⟨rfl, lp, a, c, some b, (NW.out.1.recut H5.out.2 H5.out.1 HNB0.out).recut H6.out.2 H6.out.1 HNB1.out, (NW.out.2.1.trans H5.out.2 (fun i hi hs => HBF.out i hi hs)).trans H6.out.2 (fun i hi hs => HBF.out i hi hs), NW.out.2.2⟩
  | none =>
    obtain ⟨n, hn, hcut, hbeg⟩ := begun_none h
    rw [World.setCell_alloc_past (.map #[] 0) g 1 (.map (some w.heap.size)) hgl] at hcut hbeg
    have c1 : w.cell? ⟨g, 1, none⟩ = some (.map none) := h.blk.cell 1
    have f1 := h.blk.frozen 1
    have hmm := @run_makeMap Try.prog
    have hem := fun W => _root_.Go.run_eql_map_nil (P := Try.prog) W 45 63 61 none Try.underlying45
    have a1 : (w.alloc (.map #[] 0)).cell? ⟨g, 1, none⟩ = some (.map none) := (h.alloc (.map #[] 0)).blk.cell 1
    have a2 : (w.alloc (.map #[] 0)).frozen? ⟨g, 1, none⟩ = false := (h.alloc (.map #[] 0)).blk.frozen 1
    have NC := Lib.hid hcut
    have NW := Lib.hid hbeg
    have HC := Lib.hid (hbeg.1.blk.cell 1)
    have HLT : Hid (g < ((w.setCell ⟨g, 1, none⟩ (.map (some w.heap.size))).alloc (.map #[] 0)).heap.size) := hbeg.1.blk.lt
    have HBF := Lib.hid (begun_free hbeg)
    have HNB : Hid (n < maxLen) := by { show n < maxLen; unfold maxLen; omega }
    have HNB0 : Hid (n ≤ N + 1) := by { show n ≤ N + 1; omega }
    have HNB1 : Hid (n + 1 ≤ N + 1) := by { show n + 1 ≤ N + 1; omega }
    clear h hbk hcut hbeg
    go_enter Try.func15, Try.ntmps15
    go_upto_region 3 with fail
    unfold Begun at NW
    clear c1 f1 hmm a1 a2 hem
    obtain ⟨W, hW⟩ : ∃ W, ((w.setCell ⟨g, 1, none⟩ (.map (some w.heap.size))).alloc (.map #[] 0)) = W := ⟨_, rfl⟩
    rw [hW] at NC NW HC HLT ⊢
    clear hW
    obtain ⟨b, hbb⟩ : ∃ b, w.heap.size = b := ⟨_, rfl⟩
    have HBF2 := Lib.hid (show ∀ i, i < w.heap.size → only b i → netF g lp a none i from fun i hi hs => HBF.out i hi (show i = w.heap.size by rw [hbb]; exact hs))
    clear HBF
    rw [hbb] at NC NW HC
    have HBF := HBF2
    clear HBF2
    clear hbb
    refine wp_region_tail 7 (fun i' v' w' => ([(fun v' _ => v' = (.pointer (some ⟨g, 0, none⟩))), (fun v' _ => v' = (.pointer (some ⟨g, 0, none⟩))), (fun v' _ => v' = (.pointer (some ⟨g, 1, none⟩))), (fun v' _ => v' = (.map (some b))), (fun v' _ => v' = (.int .i64 x)), (fun v' _ => v' = (.int .i64 y)), (fun v' _ => v' = (pairV (min x y) (max x y)))] : List (Value → World → Prop)).getD i' (fun _ _ => True) v' w') (by kernel_rfl) (by rfl) (by rfl) (by kernel_rfl) (by kernel_rfl) (stab_list (by
        repeat (first | exact allStab_nil | refine allStab_cons (stab_eq _) ?_ | refine allStab_cons (stab_slice _ _) ?_ | (refine allStab_cons ?_ ?_; (with_reducible assumption))))) ?_ ?_
    · simp only [List.take_succ_cons, List.take_zero]
      refine steps_cons rfl ?_ ?_
      · intro a w hR K hK
        have e0 : a.tmps.getD 0 undef = (.pointer (some ⟨g, 0, none⟩)) := hR.old 0 (by kernel_rfl) rfl
        rw [if_pos (wanted_none rfl)]
        have hB := hR.bel
        clear hR
        go_simp
        exact hK _ _ (belowSame _) rfl
      refine steps_cons rfl ?_ ?_
      · intro a w hR K hK
        obtain ⟨v19, e19, _, q19⟩ := hR.val 0 19 (by kernel_rfl) (by kernel_rfl)
        obtain rfl : v19 = (.pointer (some ⟨g, 0, none⟩)) := q19
        rw [if_pos (wanted_none rfl)]
        have hB := hR.bel
        clear hR
        go_simp
        exact hK _ _ (belowSame _) rfl
      refine steps_cons rfl ?_ ?_
      · intro a w hR K hK
        obtain ⟨v20, e20, _, q20⟩ := hR.val 1 20 (by kernel_rfl) (by kernel_rfl)
        obtain rfl : v20 = (.pointer (some ⟨g, 0, none⟩)) := q20
        rw [if_pos (wanted_none rfl)]
        have hB := hR.bel
        clear hR
        go_simp
        exact hK _ _ (belowSame _) rfl
      refine steps_cons rfl ?_ ?_
      · intro a w hR K hK
        obtain ⟨v21, e21, _, q21⟩ := hR.val 2 21 (by kernel_rfl) (by kernel_rfl)
        obtain rfl : v21 = (.pointer (some ⟨g, 1, none⟩)) := q21
        rw [if_pos (wanted_none rfl)]
        have hc : w.cell? ⟨g, 1, none⟩ = some (.map (some b)) := (hR.bel.cell (p := ⟨g, 1, none⟩) HLT.out).trans HC.out
        clear hR
        go_simp
        exact hK _ _ (belowSame _) rfl
      refine steps_cons rfl ?_ ?_
      · intro a w hR K hK
        have e1 : a.tmps.getD 1 undef = (.int .i64 x) := hR.old 1 (by kernel_rfl) rfl
        rw [if_pos (wanted_none rfl)]
        have hB := hR.bel
        clear hR
        go_simp
        exact hK _ _ (belowSame _) rfl
      refine steps_cons rfl ?_ ?_
      · intro a w hR K hK
        have e2 : a.tmps.getD 2 undef = (.int .i64 y) := hR.old 2 (by kernel_rfl) rfl
        rw [if_pos (wanted_none rfl)]
        have hB := hR.bel
        clear hR
        go_simp
        exact hK _ _ (belowSame _) rfl
      refine steps_cons rfl ?_ ?_
      · intro a w hR K hK
        obtain ⟨v23, e23, _, q23⟩ := hR.val 4 23 (by kernel_rfl) (by kernel_rfl)
        obtain rfl : v23 = (.int .i64 x) := q23
        obtain ⟨v24, e24, _, q24⟩ := hR.val 5 24 (by kernel_rfl) (by kernel_rfl)
        obtain rfl : v24 = (.int .i64 y) := q24
        rw [if_pos (wanted_none rfl)]
        have hB := hR.bel
        clear hR
        go_simp
        refine (ends_any x y _).mono ?_
        rintro e w' ⟨rfl, hw⟩
        exact hK _ _ (by first | exact belowOfEq hw | exact hw) rfl
      exact steps_nil
    · intro a w' hR K hK
      obtain ⟨v22, e22, _, q22⟩ := hR.val 3 22 (by decide) (by kernel_rfl)
      obtain rfl : v22 = (.map (some b)) := q22
      obtain ⟨v25, e25, _, q25⟩ := hR.val 6 25 (by decide) (by kernel_rfl)
      obtain rfl : v25 = (pairV (min x y) (max x y)) := q25
      rw [if_pos (wanted_none rfl)]
      have hB := belowUndrew hR.bel
      have hf := hR.frame
      rw [show dsts _ = [19, 20, 21, 22, 23, 24, 25] from by kernel_rfl] at hf
      obtain ⟨z19, h19⟩ : ∃ z, a.tmps.getD 19 undef = z := ⟨_, rfl⟩
      obtain ⟨z20, h20⟩ : ∃ z, a.tmps.getD 20 undef = z := ⟨_, rfl⟩
      obtain ⟨z21, h21⟩ : ∃ z, a.tmps.getD 21 undef = z := ⟨_, rfl⟩
      obtain ⟨z22, h22⟩ : ∃ z, a.tmps.getD 22 undef = z := ⟨_, rfl⟩
      obtain ⟨z23, h23⟩ : ∃ z, a.tmps.getD 23 undef = z := ⟨_, rfl⟩
      obtain ⟨z24, h24⟩ : ∃ z, a.tmps.getD 24 undef = z := ⟨_, rfl⟩
      obtain ⟨z25, h25⟩ : ∃ z, a.tmps.getD 25 undef = z := ⟨_, rfl⟩
      simp only [List.foldl_cons, List.foldl_nil, h19, h20, h21, h22, h23, h24, h25] at hf
      simp only [List.setIfInBounds_toArray, List.set_cons_zero, List.set_cons_succ] at hf
      have hN := Lib.hid (NC.out.keeps (Keeps.of_below hB (fun _ => False)) (fun h => h))
      have hKB := Lib.hid (Keeps.of_below hB (only b))
      clear hR hB h19 h20 h21 h22 h23 h24 h25
      refine wp_delete_cut (.tmp 22) (.tmp 25) rfl e22 e25 WX.out.1 WX.out.2 hN.out ?_
      intro w5 h5 k5
      have H5 := Lib.hid (And.intro h5 (Keeps.trans hKB.out k5 (fun _ _ h => h)))
      clear h5 k5
      refine hK _ _ ?_
      clear hK K hN hKB e22 e25
      subst hf
      have NC5 := Lib.hid H5.out.1
      have HLT5 : Hid (g < w5.heap.size) := Nat.lt_of_lt_of_le HLT.out H5.out.2.size
      have HC5 := Lib.hid ((NW.out.1.recut H5.out.2 H5.out.1 HNB0.out).blk.cell 1)
      go_wp2_with fail
      refine wp_region_tail 8 (fun i' v' w' => ([(fun v' _ => v' = (.pointer (some ⟨g, 0, none⟩))), (fun v' _ => v' = (.pointer (some ⟨g, 0, none⟩))), (fun v' _ => v' = (.pointer (some ⟨g, 1, none⟩))), (fun v' _ => v' = (.map (some b))), (fun v' _ => v' = (.int .i64 x)), (fun v' _ => v' = (.int .i64 y)), (fun v' _ => v' = (pairV (min x y) (max x y))), (fun v' _ => v' = (.agg #[]))] : List (Value → World → Prop)).getD i' (fun _ _ => True) v' w') (by kernel_rfl) (by rfl) (by rfl) (by kernel_rfl) (by kernel_rfl) (stab_list (by
          repeat (first | exact allStab_nil | refine allStab_cons (stab_eq _) ?_ | refine allStab_cons (stab_slice _ _) ?_ | (refine allStab_cons ?_ ?_; (with_reducible assumption))))) ?_ ?_
      · simp only [List.take_succ_cons, List.take_zero]
        refine steps_cons rfl ?_ ?_
        · intro a w hR K hK
          have e0 : a.tmps.getD 0 undef = (.pointer (some ⟨g, 0, none⟩)) := hR.old 0 (by kernel_rfl) rfl
          rw [if_pos (wanted_none rfl)]
          have hB := hR.bel
          clear hR
          go_simp
          exact hK _ _ (belowSame _) rfl
        refine steps_cons rfl ?_ ?_
        · intro a w hR K hK
          obtain ⟨v27, e27, _, q27⟩ := hR.val 0 27 (by kernel_rfl) (by kernel_rfl)
          obtain rfl : v27 = (.pointer (some ⟨g, 0, none⟩)) := q27
          rw [if_pos (wanted_none rfl)]
          have hB := hR.bel
          clear hR
          go_simp
          exact hK _ _ (belowSame _) rfl
        refine steps_cons rfl ?_ ?_
        · intro a w hR K hK
          obtain ⟨v28, e28, _, q28⟩ := hR.val 1 28 (by kernel_rfl) (by kernel_rfl)
          obtain rfl : v28 = (.pointer (some ⟨g, 0, none⟩)) := q28
          rw [if_pos (wanted_none rfl)]
          have hB := hR.bel
          clear hR
          go_simp
          exact hK _ _ (belowSame _) rfl
        refine steps_cons rfl ?_ ?_
        · intro a w hR K hK
          obtain ⟨v29, e29, _, q29⟩ := hR.val 2 29 (by kernel_rfl) (by kernel_rfl)
          obtain rfl : v29 = (.pointer (some ⟨g, 1, none⟩)) := q29
          rw [if_pos (wanted_none rfl)]
          have hc : w.cell? ⟨g, 1, none⟩ = some (.map (some b)) := (hR.bel.cell (p := ⟨g, 1, none⟩) HLT5.out).trans HC5.out
          clear hR
          go_simp
          exact hK _ _ (belowSame _) rfl
        refine steps_cons rfl ?_ ?_
        · intro a w hR K hK
          have e1 : a.tmps.getD 1 undef = (.int .i64 x) := hR.old 1 (by kernel_rfl) rfl
          rw [if_pos (wanted_none rfl)]
          have hB := hR.bel
          clear hR
          go_simp
          exact hK _ _ (belowSame _) rfl
        refine steps_cons rfl ?_ ?_
        · intro a w hR K hK
          have e2 : a.tmps.getD 2 undef = (.int .i64 y) := hR.old 2 (by kernel_rfl) rfl
          rw [if_pos (wanted_none rfl)]
          have hB := hR.bel
          clear hR
          go_simp
          exact hK _ _ (belowSame _) rfl
        refine steps_cons rfl ?_ ?_
        · intro a w hR K hK
          obtain ⟨v31, e31, _, q31⟩ := hR.val 4 31 (by kernel_rfl) (by kernel_rfl)
          obtain rfl : v31 = (.int .i64 x) := q31
          obtain ⟨v32, e32, _, q32⟩ := hR.val 5 32 (by kernel_rfl) (by kernel_rfl)
          obtain rfl : v32 = (.int .i64 y) := q32
          rw [if_pos (wanted_none rfl)]
          have hB := hR.bel
          clear hR
          go_simp
          refine (ends_any x y _).mono ?_
          rintro e w' ⟨rfl, hw⟩
          exact hK _ _ (by first | exact belowOfEq hw | exact hw) rfl
        refine steps_cons rfl ?_ ?_
        · intro a w hR K hK
          rw [if_pos (wanted_none rfl)]
          have hB := hR.bel
          clear hR
          go_simp
          exact hK _ _ (belowSame _) rfl
        exact steps_nil
      · intro a w' hR K hK
        obtain ⟨v30, e30, _, q30⟩ := hR.val 3 30 (by decide) (by kernel_rfl)
        obtain rfl : v30 = (.map (some b)) := q30
        obtain ⟨v33, e33, _, q33⟩ := hR.val 6 33 (by decide) (by kernel_rfl)
        obtain rfl : v33 = (pairV (min x y) (max x y)) := q33
        obtain ⟨v34, e34, _, q34⟩ := hR.val 7 34 (by decide) (by kernel_rfl)
        obtain rfl : v34 = (.agg #[]) := q34
        rw [if_pos (wanted_none rfl)]
        have hB := belowUndrew hR.bel
        have hf := hR.frame
        rw [show dsts _ = [27, 28, 29, 30, 31, 32, 33, 34] from by kernel_rfl] at hf
        obtain ⟨z27, h27⟩ : ∃ z, a.tmps.getD 27 undef = z := ⟨_, rfl⟩
        obtain ⟨z28, h28⟩ : ∃ z, a.tmps.getD 28 undef = z := ⟨_, rfl⟩
        obtain ⟨z29, h29⟩ : ∃ z, a.tmps.getD 29 undef = z := ⟨_, rfl⟩
        obtain ⟨z30, h30⟩ : ∃ z, a.tmps.getD 30 undef = z := ⟨_, rfl⟩
        obtain ⟨z31, h31⟩ : ∃ z, a.tmps.getD 31 undef = z := ⟨_, rfl⟩
        obtain ⟨z32, h32⟩ : ∃ z, a.tmps.getD 32 undef = z := ⟨_, rfl⟩
        obtain ⟨z33, h33⟩ : ∃ z, a.tmps.getD 33 undef = z := ⟨_, rfl⟩
        obtain ⟨z34, h34⟩ : ∃ z, a.tmps.getD 34 undef = z := ⟨_, rfl⟩
        simp only [List.foldl_cons, List.foldl_nil, h27, h28, h29, h30, h31, h32, h33, h34] at hf
        simp only [List.setIfInBounds_toArray, List.set_cons_zero, List.set_cons_succ] at hf
        have hN := Lib.hid (NC5.out.keeps (Keeps.of_below hB (fun _ => False)) (fun h => h))
        have hKB := Lib.hid (Keeps.of_below hB (only b))
        clear hR hB h27 h28 h29 h30 h31 h32 h33 h34
        refine wp_store_cut (.tmp 30) (.tmp 33) (.tmp 34) rfl e30 e33 e34 WX.out.1 WX.out.2 hN.out HNB.out ?_
        intro w6 h6 k6
        have H6 := Lib.hid (And.intro h6 (Keeps.trans hKB.out k6 (fun _ _ h => h)))
        clear h6 k6
        refine hK _ _ ?_
        clear hK K hN hKB e30 e33 e34
        subst hf
        go_wp2_with fail
        refine bodyPost_end (results_none rfl _ _ _) rfl ?_
        exact ⟨rfl, lp, a, c, some b, (NW.out.1.recut H5.out.2 H5.out.1 HNB0.out).recut H6.out.2 H6.out.1 HNB1.out, (NW.out.2.1.trans H5.out.2 (fun i hi hs => HBF.out i hi hs)).trans H6.out.2 (fun i hi hs => HBF.out i hi hs), NW.out.2.2⟩
end
end Go.Proofs.Ytanhdcffbdhkcaa.NT
