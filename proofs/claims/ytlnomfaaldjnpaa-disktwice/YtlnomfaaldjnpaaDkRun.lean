/- commonslaw8.run: steps of a disk. No condition. -/
import Derived.Test.YtlnomfaaldjnpaaDkOps
namespace Go.Proofs.Ytlnomfaaldjnpaa.DK
open Go.RowKit Go.Proofs.Ytlnomfaaldjnpaa.MI
set_option linter.unusedVariables false
set_option linter.unusedSimpArgs false
theorem Own.more {w0 W : World} {g N N' : Nat} {D : Dk} (h : Own w0 g N D W) (hN : N ≤ N') : Own w0 g N' D W := by
  obtain ⟨p, h1, h2⟩ := h
  exact ⟨p, h1.mono hN, h2⟩
set_option maxHeartbeats 8000000 in
set_option maxRecDepth 100000 in
theorem run_any {w0 w : World} {g N : Nat} {D0 : Dk} (h : Own w0 g N D0 w) (a : Option Addr) (len cap : Nat) (xs : List OpR) (hx : OpsIs w0 a len cap xs) (hlen : len ≤ 1000) (hN : N ≤ 100000) (hsz : ∀ o ∈ xs, o.data.size ≤ 20000) :
    Calls Try.prog 30 #[.pointer (some ⟨g, 0, none⟩), .slice a len cap] w fun e w' => e = .returned (.tuple #[]) ∧ ∃ D, Own w0 g (N + 16 * len) D w' := by
  have hcl := hx.1
  have hcm := hx.2.1
  unfold maxLen at hcm
  have HX := Lib.hid hx
  have HSZ := Lib.hid hsz
  have H0 := Lib.hid h
  clear h hx hsz
  go_enter Try.func30, Try.ntmps30
  go_wp2_with fail
  go_loopw [4] (fun i wr => ∃ (k : Nat) (D : Dk), i = .int .i64 (k : Int) ∧ k ≤ len ∧ Hid (Own w0 g (N + 16 * k) D wr)) (fun i _ => len - (intOf i).toNat)
  case atStart => exact ⟨0, D0, rfl, by omega, H0⟩
  case round =>
    clear H0
    obtain ⟨k, D, rfl, hk, HO⟩ := hrel
    by_cases hlt : k < len
    · obtain ⟨b, off, o, rfl, ho, hok, hbl, hkc, c0, c1, c2, c3, c4, c5, c6, c7⟩ := (HX.out.old HO.out.bel).at_ hlt
      have hob : o.data.size ≤ 1000000 := by have := HSZ.out o (List.mem_of_getElem? ho); omega
      have e1 : IntKind.i64.wrap ((k : Int) + 1) = (k : Int) + 1 := IntWalk.i64_in _ (by omega)
      clear ho hok hbl
      go_upto_region 4 with fail
      clear c0 c1 c2 c3 c4 c5 c6 c7
      have hB1 := Blk.new wr 47 #[.int .i64 o.kind, .int .i64 o.node, .int .i64 o.at_, .int .i64 o.n, .int .u64 o.epoch, .string o.data, .slice o.ka o.kl o.kc, .bool o.own]
      have hO1 := HO.out.alloc (.cells #[.int .i64 o.kind, .int .i64 o.node, .int .i64 o.at_, .int .i64 o.n, .int .u64 o.epoch, .string o.data, .slice o.ka o.kl o.kc, .bool o.own] 47)
      generalize wr.alloc (.cells #[.int .i64 o.kind, .int .i64 o.node, .int .i64 o.at_, .int .i64 o.n, .int .u64 o.epoch, .string o.data, .slice o.ka o.kl o.kc, .bool o.own] 47) = W1 at hB1 hO1 ⊢
      generalize wr.heap.size = ob at hB1 ⊢
      have k0 : W1.cell? ⟨ob, 0, none⟩ = some (.int .i64 o.kind) := hB1.cell 0
      have HOB := Lib.hid hB1
      have HLB : Hid (ob < W1.heap.size) := Lib.hid hB1.lt
      have C1 : Hid (W1.cell? ⟨ob, 1, none⟩ = some (.int .i64 o.node)) := Lib.hid (hB1.cell 1)
      have C2 : Hid (W1.cell? ⟨ob, 2, none⟩ = some (.int .i64 o.at_)) := Lib.hid (hB1.cell 2)
      have C5 : Hid (W1.cell? ⟨ob, 5, none⟩ = some (.string o.data)) := Lib.hid (hB1.cell 5)
      clear hB1 HO
      have HO := Lib.hid hO1
      clear hO1
      have hoN : N + 16 * k ≤ 10000000 := by omega
      by_cases q1 : o.kind = 1
      · have r1 : (o.kind == 1) = true := by simp [q1]
        rw [q1] at k0
        go_upto_region 6 with fail
        refine wp_region_tail 11 (fun i' v' w' => ([(fun v' _ => v' = (.pointer (some ⟨g, 0, none⟩))), (fun v' _ => v' = (.pointer (some ⟨ob, 1, none⟩))), (fun v' _ => v' = (.int .i64 o.node)), (fun v' _ => v' = (.pointer (some ⟨g, 0, none⟩))), (fun v' _ => v' = (.pointer (some ⟨ob, 1, none⟩))), (fun v' _ => v' = (.int .i64 o.node)), (fun v' _ => v' = (.int .u64 (epochK D o.node))), (fun v' _ => v' = (.pointer (some ⟨ob, 2, none⟩))), (fun v' _ => v' = (.int .i64 o.at_)), (fun v' _ => v' = (.pointer (some ⟨ob, 5, none⟩))), (fun v' _ => v' = (.string o.data))] : List (Value → World → Prop)).getD i' (fun _ _ => True) v' w') (by kernel_rfl) (by rfl) (by rfl) (by kernel_rfl) (by kernel_rfl) (stab_list (by
            repeat (first | exact allStab_nil | refine allStab_cons (stab_eq _) ?_ | refine allStab_cons (stab_slice _ _) ?_ | (refine allStab_cons ?_ ?_; (with_reducible assumption))))) ?_ ?_
        · simp only [List.take_succ_cons, List.take_zero]
          refine steps_cons rfl ?_ ?_
          · intro a w hR K hK
            have e0 : a.tmps.getD 0 undef = (.pointer (some ⟨g, 0, none⟩)) := hR.old 0 (by kernel_rfl) rfl
            rw [if_pos (wanted_none rfl)]
            have hB := hR.bel
            clear hR
            go_simp
            exact hK _ _ (belowSame _) rfl
          refine steps_cons rfl ?_ ?_
          · intro a w hR K hK
            have e5 : a.tmps.getD 5 undef = (.pointer (some ⟨ob, 0, none⟩)) := hR.old 5 (by kernel_rfl) rfl
            rw [if_pos (wanted_none rfl)]
            have hB := hR.bel
            clear hR
            go_simp
            exact hK _ _ (belowSame _) rfl
          refine steps_cons rfl ?_ ?_
          · intro a w hR K hK
            obtain ⟨v21, e21, _, q21⟩ := hR.val 1 21 (by kernel_rfl) (by kernel_rfl)
            obtain rfl : v21 = (.pointer (some ⟨ob, 1, none⟩)) := q21
            rw [if_pos (wanted_none rfl)]
            have hc := (hR.bel.cell (p := ⟨ob, 1, none⟩) HLB.out).trans C1.out
            clear hR
            go_simp
            exact hK _ _ (belowSame _) rfl
          refine steps_cons rfl ?_ ?_
          · intro a w hR K hK
            have e0 : a.tmps.getD 0 undef = (.pointer (some ⟨g, 0, none⟩)) := hR.old 0 (by kernel_rfl) rfl
            rw [if_pos (wanted_none rfl)]
            have hB := hR.bel
            clear hR
            go_simp
            exact hK _ _ (belowSame _) rfl
          refine steps_cons rfl ?_ ?_
          · intro a w hR K hK
            have e5 : a.tmps.getD 5 undef = (.pointer (some ⟨ob, 0, none⟩)) := hR.old 5 (by kernel_rfl) rfl
            rw [if_pos (wanted_none rfl)]
            have hB := hR.bel
            clear hR
            go_simp
            exact hK _ _ (belowSame _) rfl
          refine steps_cons rfl ?_ ?_
          · intro a w hR K hK
            obtain ⟨v24, e24, _, q24⟩ := hR.val 4 24 (by kernel_rfl) (by kernel_rfl)
            obtain rfl : v24 = (.pointer (some ⟨ob, 1, none⟩)) := q24
            rw [if_pos (wanted_none rfl)]
            have hc := (hR.bel.cell (p := ⟨ob, 1, none⟩) HLB.out).trans C1.out
            clear hR
            go_simp
            exact hK _ _ (belowSame _) rfl
          refine steps_cons rfl ?_ ?_
          · intro a w hR K hK
            obtain ⟨v23, e23, _, q23⟩ := hR.val 3 23 (by kernel_rfl) (by kernel_rfl)
            obtain rfl : v23 = (.pointer (some ⟨g, 0, none⟩)) := q23
            obtain ⟨v25, e25, _, q25⟩ := hR.val 5 25 (by kernel_rfl) (by kernel_rfl)
            obtain rfl : v25 = (.int .i64 o.node) := q25
            rw [if_pos (wanted_none rfl)]
            have ho := HO.out.then_ (belowUndrew hR.bel)
            have kl := own_epoch ho o.node
            clear hR ho
            go_simp
            refine kl.mono ?_
            rintro e w' ⟨rfl, rfl⟩
            exact hK _ _ (belowSame _) rfl
          refine steps_cons rfl ?_ ?_
          · intro a w hR K hK
            have e5 : a.tmps.getD 5 undef = (.pointer (some ⟨ob, 0, none⟩)) := hR.old 5 (by kernel_rfl) rfl
            rw [if_pos (wanted_none rfl)]
            have hB := hR.bel
            clear hR
            go_simp
            exact hK _ _ (belowSame _) rfl
          refine steps_cons rfl ?_ ?_
          · intro a w hR K hK
            obtain ⟨v27, e27, _, q27⟩ := hR.val 7 27 (by kernel_rfl) (by kernel_rfl)
            obtain rfl : v27 = (.pointer (some ⟨ob, 2, none⟩)) := q27
            rw [if_pos (wanted_none rfl)]
            have hc := (hR.bel.cell (p := ⟨ob, 2, none⟩) HLB.out).trans C2.out
            clear hR
            go_simp
            exact hK _ _ (belowSame _) rfl
          refine steps_cons rfl ?_ ?_
          · intro a w hR K hK
            have e5 : a.tmps.getD 5 undef = (.pointer (some ⟨ob, 0, none⟩)) := hR.old 5 (by kernel_rfl) rfl
            rw [if_pos (wanted_none rfl)]
            have hB := hR.bel
            clear hR
            go_simp
            exact hK _ _ (belowSame _) rfl
          refine steps_cons rfl ?_ ?_
          · intro a w hR K hK
            obtain ⟨v29, e29, _, q29⟩ := hR.val 9 29 (by kernel_rfl) (by kernel_rfl)
            obtain rfl : v29 = (.pointer (some ⟨ob, 5, none⟩)) := q29
            rw [if_pos (wanted_none rfl)]
            have hc := (hR.bel.cell (p := ⟨ob, 5, none⟩) HLB.out).trans C5.out
            clear hR
            go_simp
            exact hK _ _ (belowSame _) rfl
          exact steps_nil
        · intro a w' hR K hK
          obtain ⟨v20, e20, _, q20⟩ := hR.val 0 20 (by decide) (by kernel_rfl)
          obtain rfl : v20 = (.pointer (some ⟨g, 0, none⟩)) := q20
          obtain ⟨v22, e22, _, q22⟩ := hR.val 2 22 (by decide) (by kernel_rfl)
          obtain rfl : v22 = (.int .i64 o.node) := q22
          obtain ⟨v26, e26, _, q26⟩ := hR.val 6 26 (by decide) (by kernel_rfl)
          obtain rfl : v26 = (.int .u64 (epochK D o.node)) := q26
          obtain ⟨v28, e28, _, q28⟩ := hR.val 8 28 (by decide) (by kernel_rfl)
          obtain rfl : v28 = (.int .i64 o.at_) := q28
          obtain ⟨v30, e30, _, q30⟩ := hR.val 10 30 (by decide) (by kernel_rfl)
          obtain rfl : v30 = (.string o.data) := q30
          rw [if_pos (wanted_none rfl)]
          have hB := belowUndrew hR.bel
          have hf := hR.frame
          rw [show dsts _ = [20, 21, 22, 23, 24, 25, 26, 27, 28, 29, 30, 31] from by kernel_rfl] at hf
          obtain ⟨z21, h21⟩ : ∃ z, a.tmps.getD 21 undef = z := ⟨_, rfl⟩
          obtain ⟨z23, h23⟩ : ∃ z, a.tmps.getD 23 undef = z := ⟨_, rfl⟩
          obtain ⟨z24, h24⟩ : ∃ z, a.tmps.getD 24 undef = z := ⟨_, rfl⟩
          obtain ⟨z25, h25⟩ : ∃ z, a.tmps.getD 25 undef = z := ⟨_, rfl⟩
          obtain ⟨z27, h27⟩ : ∃ z, a.tmps.getD 27 undef = z := ⟨_, rfl⟩
          obtain ⟨z29, h29⟩ : ∃ z, a.tmps.getD 29 undef = z := ⟨_, rfl⟩
          obtain ⟨z31, h31⟩ : ∃ z, a.tmps.getD 31 undef = z := ⟨_, rfl⟩
          simp only [List.foldl_cons, List.foldl_nil, e20, h21, e22, h23, h24, h25, e26, h27, e28, h29, e30, h31] at hf
          simp only [List.setIfInBounds_toArray, List.set_cons_zero, List.set_cons_succ] at hf
          have ho := HO.out.then_ hB
          have kl := own_write ho o.node (epochK D o.node) o.at_ o.data hob hoN
          clear hR ho hB h21 h23 h24 h25 h27 h29 h31
          go_simp
          refine kl.mono ?_
          rintro e3 w3 ⟨rfl, h3⟩
          have H3 := Lib.hid h3
          clear h3 kl
          refine hK _ _ ?_
          clear hK K e20 e22 e26 e28 e30
          subst hf
          go_wp2_with fail
          go_roundw
          case rel => exact ⟨k + 1, _, by go_num, by omega, Lib.hid (H3.out.more (by omega))⟩
          case measure => simp [intOf]; omega
      · have r1 : (o.kind == 1) = false := by simp [q1]
        by_cases q2 : o.kind = 2
        · rw [q2] at k0
          go_upto_region 8 with fail
          refine wp_region_tail 7 (fun i' v' w' => ([(fun v' _ => v' = (.pointer (some ⟨g, 0, none⟩))), (fun v' _ => v' = (.pointer (some ⟨ob, 1, none⟩))), (fun v' _ => v' = (.int .i64 o.node)), (fun v' _ => v' = (.pointer (some ⟨g, 0, none⟩))), (fun v' _ => v' = (.pointer (some ⟨ob, 1, none⟩))), (fun v' _ => v' = (.int .i64 o.node)), (fun v' _ => v' = (.int .u64 (epochK D o.node)))] : List (Value → World → Prop)).getD i' (fun _ _ => True) v' w') (by kernel_rfl) (by rfl) (by rfl) (by kernel_rfl) (by kernel_rfl) (stab_list (by
              repeat (first | exact allStab_nil | refine allStab_cons (stab_eq _) ?_ | refine allStab_cons (stab_slice _ _) ?_ | (refine allStab_cons ?_ ?_; (with_reducible assumption))))) ?_ ?_
          · simp only [List.take_succ_cons, List.take_zero]
            refine steps_cons rfl ?_ ?_
            · intro a w hR K hK
              have e0 : a.tmps.getD 0 undef = (.pointer (some ⟨g, 0, none⟩)) := hR.old 0 (by kernel_rfl) rfl
              rw [if_pos (wanted_none rfl)]
              have hB := hR.bel
              clear hR
              go_simp
              exact hK _ _ (belowSame _) rfl
            refine steps_cons rfl ?_ ?_
            · intro a w hR K hK
              have e5 : a.tmps.getD 5 undef = (.pointer (some ⟨ob, 0, none⟩)) := hR.old 5 (by kernel_rfl) rfl
              rw [if_pos (wanted_none rfl)]
              have hB := hR.bel
              clear hR
              go_simp
              exact hK _ _ (belowSame _) rfl
            refine steps_cons rfl ?_ ?_
            · intro a w hR K hK
              obtain ⟨v35, e35, _, q35⟩ := hR.val 1 35 (by kernel_rfl) (by kernel_rfl)
              obtain rfl : v35 = (.pointer (some ⟨ob, 1, none⟩)) := q35
              rw [if_pos (wanted_none rfl)]
              have hc := (hR.bel.cell (p := ⟨ob, 1, none⟩) HLB.out).trans C1.out
              clear hR
              go_simp
              exact hK _ _ (belowSame _) rfl
            refine steps_cons rfl ?_ ?_
            · intro a w hR K hK
              have e0 : a.tmps.getD 0 undef = (.pointer (some ⟨g, 0, none⟩)) := hR.old 0 (by kernel_rfl) rfl
              rw [if_pos (wanted_none rfl)]
              have hB := hR.bel
              clear hR
              go_simp
              exact hK _ _ (belowSame _) rfl
            refine steps_cons rfl ?_ ?_
            · intro a w hR K hK
              have e5 : a.tmps.getD 5 undef = (.pointer (some ⟨ob, 0, none⟩)) := hR.old 5 (by kernel_rfl) rfl
              rw [if_pos (wanted_none rfl)]
              have hB := hR.bel
              clear hR
              go_simp
              exact hK _ _ (belowSame _) rfl
            refine steps_cons rfl ?_ ?_
            · intro a w hR K hK
              obtain ⟨v38, e38, _, q38⟩ := hR.val 4 38 (by kernel_rfl) (by kernel_rfl)
              obtain rfl : v38 = (.pointer (some ⟨ob, 1, none⟩)) := q38
              rw [if_pos (wanted_none rfl)]
              have hc := (hR.bel.cell (p := ⟨ob, 1, none⟩) HLB.out).trans C1.out
              clear hR
              go_simp
              exact hK _ _ (belowSame _) rfl
            refine steps_cons rfl ?_ ?_
            · intro a w hR K hK
              obtain ⟨v37, e37, _, q37⟩ := hR.val 3 37 (by kernel_rfl) (by kernel_rfl)
              obtain rfl : v37 = (.pointer (some ⟨g, 0, none⟩)) := q37
              obtain ⟨v39, e39, _, q39⟩ := hR.val 5 39 (by kernel_rfl) (by kernel_rfl)
              obtain rfl : v39 = (.int .i64 o.node) := q39
              rw [if_pos (wanted_none rfl)]
              have ho := HO.out.then_ (belowUndrew hR.bel)
              have kl := own_epoch ho o.node
              clear hR ho
              go_simp
              refine kl.mono ?_
              rintro e w' ⟨rfl, rfl⟩
              exact hK _ _ (belowSame _) rfl
            exact steps_nil
          · intro a w' hR K hK
            obtain ⟨v34, e34, _, q34⟩ := hR.val 0 34 (by decide) (by kernel_rfl)
            obtain rfl : v34 = (.pointer (some ⟨g, 0, none⟩)) := q34
            obtain ⟨v36, e36, _, q36⟩ := hR.val 2 36 (by decide) (by kernel_rfl)
            obtain rfl : v36 = (.int .i64 o.node) := q36
            obtain ⟨v40, e40, _, q40⟩ := hR.val 6 40 (by decide) (by kernel_rfl)
            obtain rfl : v40 = (.int .u64 (epochK D o.node)) := q40
            rw [if_pos (wanted_none rfl)]
            have hB := belowUndrew hR.bel
            have hf := hR.frame
            rw [show dsts _ = [34, 35, 36, 37, 38, 39, 40, 41] from by kernel_rfl] at hf
            obtain ⟨z35, h35⟩ : ∃ z, a.tmps.getD 35 undef = z := ⟨_, rfl⟩
            obtain ⟨z37, h37⟩ : ∃ z, a.tmps.getD 37 undef = z := ⟨_, rfl⟩
            obtain ⟨z38, h38⟩ : ∃ z, a.tmps.getD 38 undef = z := ⟨_, rfl⟩
            obtain ⟨z39, h39⟩ : ∃ z, a.tmps.getD 39 undef = z := ⟨_, rfl⟩
            obtain ⟨z41, h41⟩ : ∃ z, a.tmps.getD 41 undef = z := ⟨_, rfl⟩
            simp only [List.foldl_cons, List.foldl_nil, e34, h35, e36, h37, h38, h39, e40, h41] at hf
            simp only [List.setIfInBounds_toArray, List.set_cons_zero, List.set_cons_succ] at hf
            have ho := HO.out.then_ hB
            have kl := own_barrier ho o.node (epochK D o.node) hoN
            clear hR ho hB h35 h37 h38 h39 h41
            go_simp
            refine kl.mono ?_
            rintro e3 w3 ⟨rfl, h3⟩
            have H3 := Lib.hid h3
            clear h3 kl
            refine hK _ _ ?_
            clear hK K e34 e36 e40
            subst hf
            go_wp2_with fail
            go_roundw
            case rel => exact ⟨k + 1, _, by go_num, by omega, Lib.hid (H3.out.more (by omega))⟩
            case measure => simp [intOf]; omega
        · have r2 : (o.kind == 2) = false := by simp [q2]
          by_cases q3 : o.kind = 3
          · rw [q3] at k0
            obtain ⟨X, hX⟩ : ∃ X, IntKind.u64.wrap (D.last + 1) = X := ⟨_, rfl⟩
            go_upto_region 10 with fail
            refine wp_region_tail 6 (fun i' v' w' => ([(fun v' _ => v' = (.pointer (some ⟨g, 0, none⟩))), (fun v' _ => v' = (.pointer (some ⟨ob, 1, none⟩))), (fun v' _ => v' = (.int .i64 o.node)), (fun v' _ => v' = (.pointer (some ⟨g, 0, none⟩))), (fun v' _ => v' = (.int .u64 D.last)), (fun v' _ => v' = (.int .u64 X))] : List (Value → World → Prop)).getD i' (fun _ _ => True) v' w') (by kernel_rfl) (by rfl) (by rfl) (by kernel_rfl) (by kernel_rfl) (stab_list (by
                repeat (first | exact allStab_nil | refine allStab_cons (stab_eq _) ?_ | refine allStab_cons (stab_slice _ _) ?_ | (refine allStab_cons ?_ ?_; (with_reducible assumption))))) ?_ ?_
            · simp only [List.take_succ_cons, List.take_zero]
              refine steps_cons rfl ?_ ?_
              · intro a w hR K hK
                have e0 : a.tmps.getD 0 undef = (.pointer (some ⟨g, 0, none⟩)) := hR.old 0 (by kernel_rfl) rfl
                rw [if_pos (wanted_none rfl)]
                have hB := hR.bel
                clear hR
                go_simp
                exact hK _ _ (belowSame _) rfl
              refine steps_cons rfl ?_ ?_
              · intro a w hR K hK
                have e5 : a.tmps.getD 5 undef = (.pointer (some ⟨ob, 0, none⟩)) := hR.old 5 (by kernel_rfl) rfl
                rw [if_pos (wanted_none rfl)]
                have hB := hR.bel
                clear hR
                go_simp
                exact hK _ _ (belowSame _) rfl
              refine steps_cons rfl ?_ ?_
              · intro a w hR K hK
                obtain ⟨v45, e45, _, q45⟩ := hR.val 1 45 (by kernel_rfl) (by kernel_rfl)
                obtain rfl : v45 = (.pointer (some ⟨ob, 1, none⟩)) := q45
                rw [if_pos (wanted_none rfl)]
                have hc := (hR.bel.cell (p := ⟨ob, 1, none⟩) HLB.out).trans C1.out
                clear hR
                go_simp
                exact hK _ _ (belowSame _) rfl
              refine steps_cons rfl ?_ ?_
              · intro a w hR K hK
                have e0 : a.tmps.getD 0 undef = (.pointer (some ⟨g, 0, none⟩)) := hR.old 0 (by kernel_rfl) rfl
                rw [if_pos (wanted_none rfl)]
                have hB := hR.bel
                clear hR
                go_simp
                exact hK _ _ (belowSame _) rfl
              refine steps_cons rfl ?_ ?_
              · intro a w hR K hK
                obtain ⟨v47, e47, _, q47⟩ := hR.val 3 47 (by kernel_rfl) (by kernel_rfl)
                obtain rfl : v47 = (.pointer (some ⟨g, 0, none⟩)) := q47
                rw [if_pos (wanted_none rfl)]
                have ho := HO.out.then_ (belowUndrew hR.bel)
                have kl := own_last ho
                clear hR ho
                go_simp
                refine kl.mono ?_
                rintro e w' ⟨rfl, rfl⟩
                exact hK _ _ (belowSame _) rfl
              refine steps_cons rfl ?_ ?_
              · intro a w hR K hK
                obtain ⟨v48, e48, _, q48⟩ := hR.val 4 48 (by kernel_rfl) (by kernel_rfl)
                obtain rfl : v48 = (.int .u64 D.last) := q48
                rw [if_pos (wanted_none rfl)]
                have hB := hR.bel
                clear hR
                go_simp
                exact hK _ _ (belowSame _) rfl
              exact steps_nil
            · intro a w' hR K hK
              obtain ⟨v44, e44, _, q44⟩ := hR.val 0 44 (by decide) (by kernel_rfl)
              obtain rfl : v44 = (.pointer (some ⟨g, 0, none⟩)) := q44
              obtain ⟨v46, e46, _, q46⟩ := hR.val 2 46 (by decide) (by kernel_rfl)
              obtain rfl : v46 = (.int .i64 o.node) := q46
              obtain ⟨v49, e49, _, q49⟩ := hR.val 5 49 (by decide) (by kernel_rfl)
              obtain rfl : v49 = (.int .u64 X) := q49
              rw [if_pos (wanted_none rfl)]
              have hB := belowUndrew hR.bel
              have hf := hR.frame
              rw [show dsts _ = [44, 45, 46, 47, 48, 49, 50] from by kernel_rfl] at hf
              obtain ⟨z45, h45⟩ : ∃ z, a.tmps.getD 45 undef = z := ⟨_, rfl⟩
              obtain ⟨z47, h47⟩ : ∃ z, a.tmps.getD 47 undef = z := ⟨_, rfl⟩
              obtain ⟨z48, h48⟩ : ∃ z, a.tmps.getD 48 undef = z := ⟨_, rfl⟩
              obtain ⟨z50, h50⟩ : ∃ z, a.tmps.getD 50 undef = z := ⟨_, rfl⟩
              simp only [List.foldl_cons, List.foldl_nil, e44, h45, e46, h47, h48, e49, h50] at hf
              simp only [List.setIfInBounds_toArray, List.set_cons_zero, List.set_cons_succ] at hf
              have ho := HO.out.then_ hB
              have kl := own_admit ho o.node X hoN
              clear hR ho hB h45 h47 h48 h50
              go_simp
              refine kl.mono ?_
              rintro e3 w3 ⟨rfl, h3⟩
              have H3 := Lib.hid h3
              clear h3 kl
              refine hK _ _ ?_
              clear hK K e44 e46 e49
              subst hf
              go_wp2_with fail
              go_roundw
              case rel => exact ⟨k + 1, _, by go_num, by omega, Lib.hid (H3.out.more (by omega))⟩
              case measure => simp [intOf]; omega
          · have r3 : (o.kind == 3) = false := by simp [q3]
            by_cases q4 : o.kind = 4
            · rw [q4] at k0
              have d1 := C1.out
              have kl := own_fence HO.out o.node hoN
              go_wp2_with (go_at_call 28; (with_reducible refine kl.mono ?_); rintro e3 w3 ⟨rfl, h3⟩; have H3 := Lib.hid h3; clear h3 kl)
              go_roundw
              case rel => exact ⟨k + 1, _, by go_num, by omega, Lib.hid (H3.out.more (by omega))⟩
              case measure => simp [intOf]; omega
            · have r4 : (o.kind == 4) = false := by simp [q4]
              go_wp2_with fail
              go_roundw
              case rel => exact ⟨k + 1, _, by go_num, by omega, Lib.hid (HO.out.more (by omega))⟩
              case measure => simp [intOf]; omega
    · go_wp2_with fail
      refine bodyPost_end (results_none rfl _ _ _) rfl ?_
      exact ⟨rfl, D, HO.out.more (by omega)⟩
end Go.Proofs.Ytlnomfaaldjnpaa.DK
