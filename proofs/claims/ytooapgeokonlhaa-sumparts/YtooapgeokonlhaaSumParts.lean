/- SumParts: the walk. No condition. -/
import Derived.Test.YtooapgeokonlhaaSumLaw
namespace Go.Proofs.Ytooapgeokonlhaa.sumParts
open Go.RowKit Go.Proofs.Ytooapgeokonlhaa.SM
set_option linter.unusedVariables false

theorem parts_eq (s : ByteArray) (i j : Nat) (h1 : i ≤ j) (h2 : j ≤ s.size) : allB [s.extract 0 i, s.extract i j, s.extract j s.size] = s.data.toList := by
  unfold allB
  have e0 : (s.extract 0 i).data.toList = s.data.toList.take i := by simp
  have e1 : (s.extract i j).data.toList = (s.data.toList.drop i).take (j - i) := by simp
  have e2 : (s.extract j s.size).data.toList = s.data.toList.drop j := by
    have : (s.extract j s.size).data.toList = (s.data.toList.drop j).take (s.size - j) := by simp
    rw [this, List.take_of_length_le (by simp)]
  simp only [List.flatMap_cons, List.flatMap_nil, List.append_nil, e0, e1, e2]
  have h3 : s.data.toList.drop j = (s.data.toList.drop i).drop (j - i) := by rw [List.drop_drop]; congr 1; omega
  rw [h3, List.take_append_drop, List.take_append_drop]

set_option maxHeartbeats 1000000 in
set_option maxRecDepth 100000 in
theorem walk (s t : ByteArray) (a b : Int) (w : World) (_g0 : s.size ≤ maxLen) (_g1 : t.size ≤ maxLen) (g2 : (Lit.int .i64 a).wf = true) (g3 : (Lit.int .i64 b).wf = true) :
    Calls Try.prog 6 #[.string s, .string t, .int .i64 a, .int .i64 b] w fun e w' => e = .returned (.bool true) ∧ Below w.heap.size w w' := by
  unfold maxLen at _g0 _g1
  by_cases c1 : (3000 : Int) < s.size
  · go_enter Try.func6, Try.ntmps6
    go_wp2_with (go_at_call 8; refine (alive_any _).mono ?_; rintro e w1 ⟨rfl, hb⟩)
    go_ret
    exact ⟨rfl, hb⟩
  by_cases c2 : (3000 : Int) < t.size
  · go_enter Try.func6, Try.ntmps6
    go_wp2_with (go_at_call 8; refine (alive_any _).mono ?_; rintro e w1 ⟨rfl, hb⟩)
    go_ret
    exact ⟨rfl, hb⟩
  by_cases c3 : a < 0
  · go_enter Try.func6, Try.ntmps6
    go_wp2_with (go_at_call 8; refine (alive_any _).mono ?_; rintro e w1 ⟨rfl, hb⟩)
    go_ret
    exact ⟨rfl, hb⟩
  by_cases c4 : b < a
  · go_enter Try.func6, Try.ntmps6
    go_wp2_with (go_at_call 8; refine (alive_any _).mono ?_; rintro e w1 ⟨rfl, hb⟩)
    go_ret
    exact ⟨rfl, hb⟩
  by_cases c5 : (s.size : Int) < b
  · go_enter Try.func6, Try.ntmps6
    go_wp2_with (go_at_call 8; refine (alive_any _).mono ?_; rintro e w1 ⟨rfl, hb⟩)
    go_ret
    exact ⟨rfl, hb⟩
  obtain ⟨i, rfl⟩ : ∃ i : Nat, a = (i : Int) := ⟨a.toNat, by omega⟩
  obtain ⟨j, rfl⟩ : ∃ j : Nat, b = (j : Int) := ⟨b.toNat, by omega⟩
  have d0 : (0 : Int) ≤ (i : Int) := by omega
  have d1 : (i : Int) ≤ (j : Int) := by omega
  have d2 : (j : Int) ≤ (s.size : Int) := by omega
  have d3 : (i : Int) ≤ (s.size : Int) := by omega
  have d4 : (0 : Int) ≤ (j : Int) := by omega
  have hst : (s ++ t).size = s.size + t.size := by simp
  have z0 : (s.extract 0 i).size ≤ 1000000 := by simp; omega
  have z1 : (s.extract i j).size ≤ 1000000 := by simp; omega
  have z2 : (s.extract j s.size).size ≤ 1000000 := by simp; omega
  have z3 : s.size ≤ 1000000 := by omega
  have z4 : t.size ≤ 1000000 := by omega
  have z5 : (s ++ t).size ≤ 1000000 := by omega
  have z6 : (ByteArray.mk #[]).size ≤ 1000000 := by decide
  obtain ⟨v, hv⟩ : ∃ v, sumL s.data.toList = v := ⟨_, rfl⟩
  obtain ⟨u, hu⟩ : ∃ u, sumL (s ++ t).data.toList = u := ⟨_, rfl⟩
  obtain ⟨z, hz⟩ : ∃ z, sumL [] = z := ⟨_, rfl⟩
  obtain ⟨v, hv⟩ : ∃ v, sumL s.data.toList = v := ⟨_, rfl⟩
  obtain ⟨u, hu⟩ : ∃ u, sumL (s ++ t).data.toList = u := ⟨_, rfl⟩
  obtain ⟨z, hz⟩ : ∃ z, sumL [] = z := ⟨_, rfl⟩
  obtain ⟨v, hv⟩ : ∃ v, sumL s.data.toList = v := ⟨_, rfl⟩
  obtain ⟨u, hu⟩ : ∃ u, sumL (s ++ t).data.toList = u := ⟨_, rfl⟩
  obtain ⟨z, hz⟩ : ∃ z, sumL [] = z := ⟨_, rfl⟩
  obtain ⟨v, hv⟩ : ∃ v, sumL s.data.toList = v := ⟨_, rfl⟩
  obtain ⟨u, hu⟩ : ∃ u, sumL (s ++ t).data.toList = u := ⟨_, rfl⟩
  obtain ⟨z, hz⟩ : ∃ z, sumL [] = z := ⟨_, rfl⟩
  obtain ⟨v, hv⟩ : ∃ v, sumL s.data.toList = v := ⟨_, rfl⟩
  obtain ⟨u, hu⟩ : ∃ u, sumL (s ++ t).data.toList = u := ⟨_, rfl⟩
  obtain ⟨z, hz⟩ : ∃ z, sumL [] = z := ⟨_, rfl⟩
  obtain ⟨v, hv⟩ : ∃ v, sumL s.data.toList = v := ⟨_, rfl⟩
  obtain ⟨u, hu⟩ : ∃ u, sumL (s ++ t).data.toList = u := ⟨_, rfl⟩
  obtain ⟨z, hz⟩ : ∃ z, sumL [] = z := ⟨_, rfl⟩
  have q1 : sumC [.string (s.extract 0 i), .string (s.extract i j), .string (s.extract j s.size)] = v := by
    show sumL (allB [s.extract 0 i, s.extract i j, s.extract j s.size]) = v
    rw [parts_eq s i j (by omega) (by omega)]; exact hv
  have q2 : sumC [.string s] = v := by
    show sumL (allB [s]) = v
    rw [← hv]; simp [allB]
  have q3 : sumC [.string s, .string t] = u := by
    show sumL (allB [s, t]) = u
    rw [← hu]; simp [allB]
  have q4 : sumC [.string (s ++ t)] = u := by
    show sumL (allB [s ++ t]) = u
    rw [← hu]; simp [allB]
  have q5 : sumC [.string (ByteArray.mk #[]), .string (ByteArray.mk #[])] = z := hz
  have of_z : ∀ {W : World}, Calls Try.prog 16 #[.slice none 0 0] W fun e w' => e = .returned (.int .u32 z) ∧ W = w' := fun {W} => by
    have := of_c (A := none) (n := 0) (c := 0) (cs := []) (W := W) Lies.nil Txts.nil (by decide)
    rwa [show sumC [] = z from hz] at this
  have t1 := Txts.cons z0 (Txts.cons z1 (Txts.cons z2 Txts.nil))
  have t2 := Txts.cons z3 Txts.nil
  have t3 := Txts.cons z3 (Txts.cons z4 Txts.nil)
  have t4 := Txts.cons z5 Txts.nil
  have t5 := Txts.cons z6 (Txts.cons z6 Txts.nil)
  have ks := seal_any s (by omega)
  have hsz := (open_seal s).2.1
  obtain ⟨y, hy⟩ : ∃ y, sealT s = y := ⟨_, rfl⟩
  rw [hy] at ks hsz
  have hsz2 : ((y.size : Int) == (s.size : Int) + 4) = true := by rw [hsz]; simp
  have hcat : ¬ 9223372036854775807 < s.size + t.size := by omega
  have hwr : IntKind.i64.wrap ((s.size : Int) + 4) = (s.size : Int) + 4 := IntWalk.i64_in _ (by omega)
  have Q1 := Lib.hid q1
  have Q2 := Lib.hid q2
  have Q3 := Lib.hid q3
  have Q4 := Lib.hid q4
  have Q5 := Lib.hid q5
  clear hy hsz hst hv hu hz q1 q2 q3 q4 q5
  go_enter Try.func6, Try.ntmps6
  go_wp2_with fail
  refine wp_region_inv (fun i' v' w' => ([(fun v' _ => v' = (.bool true)), (fun v' _ => v' = (.bool true)), (fun v' _ => v' = (.string s)), (fun v' _ => v' = (.int .i64 (i : Int))), (fun v' _ => v' = (.string (s.extract 0 i))), (fun v' _ => v' = (.string s)), (fun v' _ => v' = (.int .i64 (i : Int))), (fun v' _ => v' = (.int .i64 (j : Int))), (fun v' _ => v' = (.string (s.extract i j))), (fun v' _ => v' = (.string s)), (fun v' _ => v' = (.int .i64 (j : Int))), (fun v' _ => v' = (.string (s.extract j s.size))), (fun v' w' => SliceAt 9 #[(.string (s.extract 0 i)), (.string (s.extract i j)), (.string (s.extract j s.size))] v' w'), (fun v' _ => v' = (.int .u32 v)), (fun v' _ => v' = (.string s)), (fun v' w' => SliceAt 9 #[(.string s)] v' w'), (fun v' _ => v' = (.int .u32 v)), (fun v' _ => v' = (.bool true)), (fun v' _ => v' = (.bool true)), (fun v' _ => v' = (.bool true)), (fun v' _ => v' = (.string s)), (fun v' _ => v' = (.string t)), (fun v' w' => SliceAt 9 #[(.string s), (.string t)] v' w'), (fun v' _ => v' = (.int .u32 u)), (fun v' _ => v' = (.string s)), (fun v' _ => v' = (.string t)), (fun v' _ => v' = (.string (s ++ t))), (fun v' w' => SliceAt 9 #[(.string (s ++ t))] v' w'), (fun v' _ => v' = (.int .u32 u)), (fun v' _ => v' = (.bool true)), (fun v' _ => v' = (.bool true)), (fun v' _ => v' = (.bool true)), (fun v' _ => v' = (.int .u32 z)), (fun v' w' => SliceAt 9 #[(Value.string { data := #[] }), (Value.string { data := #[] })] v' w'), (fun v' _ => v' = (.int .u32 z)), (fun v' _ => v' = (.bool true)), (fun v' _ => v' = (.bool true)), (fun v' _ => v' = (.bool true)), (fun v' _ => v' = (.string s)), (fun v' _ => v' = (.string y)), (fun v' _ => v' = (.int .i64 (y.size : Int))), (fun v' _ => v' = (.string s)), (fun v' _ => v' = (.int .i64 (s.size : Int))), (fun v' _ => v' = (.int .i64 ((s.size : Int) + 4))), (fun v' _ => v' = (.bool true)), (fun v' _ => v' = (.bool true)), (fun v' _ => v' = (.bool true))] : List (Value → World → Prop)).getD i' (fun _ _ => True) v' w') (by kernel_rfl) (by kernel_rfl) (stab_list (by
      repeat (first | exact allStab_nil | refine allStab_cons (stab_eq _) ?_ | refine allStab_cons (stab_slice _ _) ?_))) ?_ ?_
  · refine steps_cons rfl ?_ ?_
    · intro a w hR K hK
      rw [if_pos (wanted_none rfl)]
      clear hR
      go_simp
      refine (alive_any _).mono ?_
      rintro e w' ⟨rfl, hw⟩
      exact hK _ _ (by first | exact belowOfEq hw | exact hw) rfl
    refine steps_cons rfl ?_ ?_
    · intro a w hR K hK
      obtain ⟨v33, e33, _, q33⟩ := hR.val 0 33 (by kernel_rfl) (by kernel_rfl)
      obtain rfl : v33 = (.bool true) := q33
      rw [if_pos (wanted_none rfl)]
      clear hR
      go_simp
      exact hK _ _ (belowSame _) rfl
    refine steps_cons rfl ?_ ?_
    · intro a w hR K hK
      have e0 : a.tmps.getD 0 undef = (.string s) := hR.old 0 (by kernel_rfl) rfl
      rw [if_pos (hR.wants (o := _) rfl (by kernel_rfl : depB _ 1 = true) (by kernel_rfl : dstAt _ 1 = some 34) (fun _ h => h))]
      clear hR
      go_simp
      exact hK _ _ (belowSame _) rfl
    refine steps_cons rfl ?_ ?_
    · intro a w hR K hK
      have e2 : a.tmps.getD 2 undef = (.int .i64 (i : Int)) := hR.old 2 (by kernel_rfl) rfl
      rw [if_pos (hR.wants (o := _) rfl (by kernel_rfl : depB _ 1 = true) (by kernel_rfl : dstAt _ 1 = some 34) (fun _ h => h))]
      clear hR
      go_simp
      exact hK _ _ (belowSame _) rfl
    refine steps_cons rfl ?_ ?_
    · intro a w hR K hK
      obtain ⟨v35, e35, _, q35⟩ := hR.val 2 35 (by kernel_rfl) (by kernel_rfl)
      obtain rfl : v35 = (.string s) := q35
      obtain ⟨v36, e36, _, q36⟩ := hR.val 3 36 (by kernel_rfl) (by kernel_rfl)
      obtain rfl : v36 = (.int .i64 (i : Int)) := q36
      rw [if_pos (hR.wants (o := _) rfl (by kernel_rfl : depB _ 1 = true) (by kernel_rfl : dstAt _ 1 = some 34) (fun _ h => h))]
      clear hR
      go_simp
      exact hK _ _ (belowSame _) rfl
    refine steps_cons rfl ?_ ?_
    · intro a w hR K hK
      have e0 : a.tmps.getD 0 undef = (.string s) := hR.old 0 (by kernel_rfl) rfl
      rw [if_pos (hR.wants (o := _) rfl (by kernel_rfl : depB _ 1 = true) (by kernel_rfl : dstAt _ 1 = some 34) (fun _ h => h))]
      clear hR
      go_simp
      exact hK _ _ (belowSame _) rfl
    refine steps_cons rfl ?_ ?_
    · intro a w hR K hK
      have e2 : a.tmps.getD 2 undef = (.int .i64 (i : Int)) := hR.old 2 (by kernel_rfl) rfl
      rw [if_pos (hR.wants (o := _) rfl (by kernel_rfl : depB _ 1 = true) (by kernel_rfl : dstAt _ 1 = some 34) (fun _ h => h))]
      clear hR
      go_simp
      exact hK _ _ (belowSame _) rfl
    refine steps_cons rfl ?_ ?_
    · intro a w hR K hK
      have e3 : a.tmps.getD 3 undef = (.int .i64 (j : Int)) := hR.old 3 (by kernel_rfl) rfl
      rw [if_pos (hR.wants (o := _) rfl (by kernel_rfl : depB _ 1 = true) (by kernel_rfl : dstAt _ 1 = some 34) (fun _ h => h))]
      clear hR
      go_simp
      exact hK _ _ (belowSame _) rfl
    refine steps_cons rfl ?_ ?_
    · intro a w hR K hK
      obtain ⟨v38, e38, _, q38⟩ := hR.val 5 38 (by kernel_rfl) (by kernel_rfl)
      obtain rfl : v38 = (.string s) := q38
      obtain ⟨v39, e39, _, q39⟩ := hR.val 6 39 (by kernel_rfl) (by kernel_rfl)
      obtain rfl : v39 = (.int .i64 (i : Int)) := q39
      obtain ⟨v40, e40, _, q40⟩ := hR.val 7 40 (by kernel_rfl) (by kernel_rfl)
      obtain rfl : v40 = (.int .i64 (j : Int)) := q40
      rw [if_pos (hR.wants (o := _) rfl (by kernel_rfl : depB _ 1 = true) (by kernel_rfl : dstAt _ 1 = some 34) (fun _ h => h))]
      clear hR
      go_simp
      exact hK _ _ (belowSame _) rfl
    refine steps_cons rfl ?_ ?_
    · intro a w hR K hK
      have e0 : a.tmps.getD 0 undef = (.string s) := hR.old 0 (by kernel_rfl) rfl
      rw [if_pos (hR.wants (o := _) rfl (by kernel_rfl : depB _ 1 = true) (by kernel_rfl : dstAt _ 1 = some 34) (fun _ h => h))]
      clear hR
      go_simp
      exact hK _ _ (belowSame _) rfl
    refine steps_cons rfl ?_ ?_
    · intro a w hR K hK
      have e3 : a.tmps.getD 3 undef = (.int .i64 (j : Int)) := hR.old 3 (by kernel_rfl) rfl
      rw [if_pos (hR.wants (o := _) rfl (by kernel_rfl : depB _ 1 = true) (by kernel_rfl : dstAt _ 1 = some 34) (fun _ h => h))]
      clear hR
      go_simp
      exact hK _ _ (belowSame _) rfl
    refine steps_cons rfl ?_ ?_
    · intro a w hR K hK
      obtain ⟨v42, e42, _, q42⟩ := hR.val 9 42 (by kernel_rfl) (by kernel_rfl)
      obtain rfl : v42 = (.string s) := q42
      obtain ⟨v43, e43, _, q43⟩ := hR.val 10 43 (by kernel_rfl) (by kernel_rfl)
      obtain rfl : v43 = (.int .i64 (j : Int)) := q43
      rw [if_pos (hR.wants (o := _) rfl (by kernel_rfl : depB _ 1 = true) (by kernel_rfl : dstAt _ 1 = some 34) (fun _ h => h))]
      clear hR
      go_simp
      exact hK _ _ (belowSame _) rfl
    refine steps_cons rfl ?_ ?_
    · intro a w hR K hK
      obtain ⟨v37, e37, _, q37⟩ := hR.val 4 37 (by kernel_rfl) (by kernel_rfl)
      obtain rfl : v37 = (.string (s.extract 0 i)) := q37
      obtain ⟨v41, e41, _, q41⟩ := hR.val 8 41 (by kernel_rfl) (by kernel_rfl)
      obtain rfl : v41 = (.string (s.extract i j)) := q41
      obtain ⟨v44, e44, _, q44⟩ := hR.val 11 44 (by kernel_rfl) (by kernel_rfl)
      obtain rfl : v44 = (.string (s.extract j s.size)) := q44
      rw [if_pos (hR.wants (o := _) rfl (by kernel_rfl : depB _ 1 = true) (by kernel_rfl : dstAt _ 1 = some 34) (fun _ h => h))]
      clear hR
      go_simp
      exact hK _ _ (belowNew (belowSame _) _) ⟨_, rfl, Blk.new _ _ _⟩
    refine steps_cons rfl ?_ ?_
    · intro a w hR K hK
      obtain ⟨v45, e45, _, q45⟩ := hR.val 12 45 (by kernel_rfl) (by kernel_rfl)
      obtain ⟨g45, rfl, b45⟩ := slice_at q45
      rw [if_pos (hR.wants (o := _) rfl (by kernel_rfl : depB _ 1 = true) (by kernel_rfl : dstAt _ 1 = some 34) (fun _ h => h))]
      clear hR
      go_simp
      refine (of_v Q1.out t1 (by simp) b45).mono ?_
      rintro e w' ⟨rfl, hw⟩
      exact hK _ _ (by first | exact belowOfEq hw | exact hw) rfl
    refine steps_cons rfl ?_ ?_
    · intro a w hR K hK
      have e0 : a.tmps.getD 0 undef = (.string s) := hR.old 0 (by kernel_rfl) rfl
      rw [if_pos (hR.wants (o := _) rfl (by kernel_rfl : depB _ 1 = true) (by kernel_rfl : dstAt _ 1 = some 34) (fun _ h => h))]
      clear hR
      go_simp
      exact hK _ _ (belowSame _) rfl
    refine steps_cons rfl ?_ ?_
    · intro a w hR K hK
      obtain ⟨v47, e47, _, q47⟩ := hR.val 14 47 (by kernel_rfl) (by kernel_rfl)
      obtain rfl : v47 = (.string s) := q47
      rw [if_pos (hR.wants (o := _) rfl (by kernel_rfl : depB _ 1 = true) (by kernel_rfl : dstAt _ 1 = some 34) (fun _ h => h))]
      clear hR
      go_simp
      exact hK _ _ (belowNew (belowSame _) _) ⟨_, rfl, Blk.new _ _ _⟩
    refine steps_cons rfl ?_ ?_
    · intro a w hR K hK
      obtain ⟨v48, e48, _, q48⟩ := hR.val 15 48 (by kernel_rfl) (by kernel_rfl)
      obtain ⟨g48, rfl, b48⟩ := slice_at q48
      rw [if_pos (hR.wants (o := _) rfl (by kernel_rfl : depB _ 1 = true) (by kernel_rfl : dstAt _ 1 = some 34) (fun _ h => h))]
      clear hR
      go_simp
      refine (of_v Q2.out t2 (by simp) b48).mono ?_
      rintro e w' ⟨rfl, hw⟩
      exact hK _ _ (by first | exact belowOfEq hw | exact hw) rfl
    refine steps_cons rfl ?_ ?_
    · intro a w hR K hK
      obtain ⟨v46, e46, _, q46⟩ := hR.val 13 46 (by kernel_rfl) (by kernel_rfl)
      obtain rfl : v46 = (.int .u32 v) := q46
      obtain ⟨v49, e49, _, q49⟩ := hR.val 16 49 (by kernel_rfl) (by kernel_rfl)
      obtain rfl : v49 = (.int .u32 v) := q49
      rw [if_pos (hR.wants (o := _) rfl (by kernel_rfl : depB _ 1 = true) (by kernel_rfl : dstAt _ 1 = some 34) (fun _ h => h))]
      clear hR
      go_simp
      exact hK _ _ (belowSame _) rfl
    refine steps_cons rfl ?_ ?_
    · intro a w hR K hK
      obtain ⟨v34, e34, _, q34⟩ := hR.val 1 34 (by kernel_rfl) (by kernel_rfl)
      obtain rfl : v34 = (.bool true) := q34
      obtain ⟨v50, e50, _, q50⟩ := hR.val 17 50 (by kernel_rfl) (by kernel_rfl)
      obtain rfl : v50 = (.bool true) := q50
      rw [if_pos (wanted_none rfl)]
      clear hR
      go_simp
      exact hK _ _ (belowSame _) rfl
    refine steps_cons rfl ?_ ?_
    · intro a w hR K hK
      obtain ⟨v51, e51, _, q51⟩ := hR.val 18 51 (by kernel_rfl) (by kernel_rfl)
      obtain rfl : v51 = (.bool true) := q51
      rw [if_pos (wanted_none rfl)]
      clear hR
      go_simp
      exact hK _ _ (belowSame _) rfl
    refine steps_cons rfl ?_ ?_
    · intro a w hR K hK
      have e0 : a.tmps.getD 0 undef = (.string s) := hR.old 0 (by kernel_rfl) rfl
      rw [if_pos (hR.wants (o := _) rfl (by kernel_rfl : depB _ 19 = true) (by kernel_rfl : dstAt _ 19 = some 52) (fun _ h => h))]
      clear hR
      go_simp
      exact hK _ _ (belowSame _) rfl
    refine steps_cons rfl ?_ ?_
    · intro a w hR K hK
      have e1 : a.tmps.getD 1 undef = (.string t) := hR.old 1 (by kernel_rfl) rfl
      rw [if_pos (hR.wants (o := _) rfl (by kernel_rfl : depB _ 19 = true) (by kernel_rfl : dstAt _ 19 = some 52) (fun _ h => h))]
      clear hR
      go_simp
      exact hK _ _ (belowSame _) rfl
    refine steps_cons rfl ?_ ?_
    · intro a w hR K hK
      obtain ⟨v53, e53, _, q53⟩ := hR.val 20 53 (by kernel_rfl) (by kernel_rfl)
      obtain rfl : v53 = (.string s) := q53
      obtain ⟨v54, e54, _, q54⟩ := hR.val 21 54 (by kernel_rfl) (by kernel_rfl)
      obtain rfl : v54 = (.string t) := q54
      rw [if_pos (hR.wants (o := _) rfl (by kernel_rfl : depB _ 19 = true) (by kernel_rfl : dstAt _ 19 = some 52) (fun _ h => h))]
      clear hR
      go_simp
      exact hK _ _ (belowNew (belowSame _) _) ⟨_, rfl, Blk.new _ _ _⟩
    refine steps_cons rfl ?_ ?_
    · intro a w hR K hK
      obtain ⟨v55, e55, _, q55⟩ := hR.val 22 55 (by kernel_rfl) (by kernel_rfl)
      obtain ⟨g55, rfl, b55⟩ := slice_at q55
      rw [if_pos (hR.wants (o := _) rfl (by kernel_rfl : depB _ 19 = true) (by kernel_rfl : dstAt _ 19 = some 52) (fun _ h => h))]
      clear hR
      go_simp
      refine (of_v Q3.out t3 (by simp) b55).mono ?_
      rintro e w' ⟨rfl, hw⟩
      exact hK _ _ (by first | exact belowOfEq hw | exact hw) rfl
    refine steps_cons rfl ?_ ?_
    · intro a w hR K hK
      have e0 : a.tmps.getD 0 undef = (.string s) := hR.old 0 (by kernel_rfl) rfl
      rw [if_pos (hR.wants (o := _) rfl (by kernel_rfl : depB _ 19 = true) (by kernel_rfl : dstAt _ 19 = some 52) (fun _ h => h))]
      clear hR
      go_simp
      exact hK _ _ (belowSame _) rfl
    refine steps_cons rfl ?_ ?_
    · intro a w hR K hK
      have e1 : a.tmps.getD 1 undef = (.string t) := hR.old 1 (by kernel_rfl) rfl
      rw [if_pos (hR.wants (o := _) rfl (by kernel_rfl : depB _ 19 = true) (by kernel_rfl : dstAt _ 19 = some 52) (fun _ h => h))]
      clear hR
      go_simp
      exact hK _ _ (belowSame _) rfl
    refine steps_cons rfl ?_ ?_
    · intro a w hR K hK
      obtain ⟨v57, e57, _, q57⟩ := hR.val 24 57 (by kernel_rfl) (by kernel_rfl)
      obtain rfl : v57 = (.string s) := q57
      obtain ⟨v58, e58, _, q58⟩ := hR.val 25 58 (by kernel_rfl) (by kernel_rfl)
      obtain rfl : v58 = (.string t) := q58
      rw [if_pos (hR.wants (o := _) rfl (by kernel_rfl : depB _ 19 = true) (by kernel_rfl : dstAt _ 19 = some 52) (fun _ h => h))]
      clear hR
      go_simp
      exact hK _ _ (belowSame _) rfl
    refine steps_cons rfl ?_ ?_
    · intro a w hR K hK
      obtain ⟨v59, e59, _, q59⟩ := hR.val 26 59 (by kernel_rfl) (by kernel_rfl)
      obtain rfl : v59 = (.string (s ++ t)) := q59
      rw [if_pos (hR.wants (o := _) rfl (by kernel_rfl : depB _ 19 = true) (by kernel_rfl : dstAt _ 19 = some 52) (fun _ h => h))]
      clear hR
      go_simp
      exact hK _ _ (belowNew (belowSame _) _) ⟨_, rfl, Blk.new _ _ _⟩
    refine steps_cons rfl ?_ ?_
    · intro a w hR K hK
      obtain ⟨v60, e60, _, q60⟩ := hR.val 27 60 (by kernel_rfl) (by kernel_rfl)
      obtain ⟨g60, rfl, b60⟩ := slice_at q60
      rw [if_pos (hR.wants (o := _) rfl (by kernel_rfl : depB _ 19 = true) (by kernel_rfl : dstAt _ 19 = some 52) (fun _ h => h))]
      clear hR
      go_simp
      refine (of_v Q4.out t4 (by simp) b60).mono ?_
      rintro e w' ⟨rfl, hw⟩
      exact hK _ _ (by first | exact belowOfEq hw | exact hw) rfl
    refine steps_cons rfl ?_ ?_
    · intro a w hR K hK
      obtain ⟨v56, e56, _, q56⟩ := hR.val 23 56 (by kernel_rfl) (by kernel_rfl)
      obtain rfl : v56 = (.int .u32 u) := q56
      obtain ⟨v61, e61, _, q61⟩ := hR.val 28 61 (by kernel_rfl) (by kernel_rfl)
      obtain rfl : v61 = (.int .u32 u) := q61
      rw [if_pos (hR.wants (o := _) rfl (by kernel_rfl : depB _ 19 = true) (by kernel_rfl : dstAt _ 19 = some 52) (fun _ h => h))]
      clear hR
      go_simp
      exact hK _ _ (belowSame _) rfl
    refine steps_cons rfl ?_ ?_
    · intro a w hR K hK
      obtain ⟨v52, e52, _, q52⟩ := hR.val 19 52 (by kernel_rfl) (by kernel_rfl)
      obtain rfl : v52 = (.bool true) := q52
      obtain ⟨v62, e62, _, q62⟩ := hR.val 29 62 (by kernel_rfl) (by kernel_rfl)
      obtain rfl : v62 = (.bool true) := q62
      rw [if_pos (wanted_none rfl)]
      clear hR
      go_simp
      exact hK _ _ (belowSame _) rfl
    refine steps_cons rfl ?_ ?_
    · intro a w hR K hK
      obtain ⟨v63, e63, _, q63⟩ := hR.val 30 63 (by kernel_rfl) (by kernel_rfl)
      obtain rfl : v63 = (.bool true) := q63
      rw [if_pos (wanted_none rfl)]
      clear hR
      go_simp
      exact hK _ _ (belowSame _) rfl
    refine steps_cons rfl ?_ ?_
    · intro a w hR K hK
      rw [if_pos (hR.wants (o := _) rfl (by kernel_rfl : depB _ 31 = true) (by kernel_rfl : dstAt _ 31 = some 64) (fun _ h => h))]
      clear hR
      go_simp
      refine (of_z).mono ?_
      rintro e w' ⟨rfl, hw⟩
      exact hK _ _ (by first | exact belowOfEq hw | exact hw) rfl
    refine steps_cons rfl ?_ ?_
    · intro a w hR K hK
      rw [if_pos (hR.wants (o := _) rfl (by kernel_rfl : depB _ 31 = true) (by kernel_rfl : dstAt _ 31 = some 64) (fun _ h => h))]
      clear hR
      go_simp
      exact hK _ _ (belowNew (belowSame _) _) ⟨_, rfl, Blk.new _ _ _⟩
    refine steps_cons rfl ?_ ?_
    · intro a w hR K hK
      obtain ⟨v66, e66, _, q66⟩ := hR.val 33 66 (by kernel_rfl) (by kernel_rfl)
      obtain ⟨g66, rfl, b66⟩ := slice_at q66
      rw [if_pos (hR.wants (o := _) rfl (by kernel_rfl : depB _ 31 = true) (by kernel_rfl : dstAt _ 31 = some 64) (fun _ h => h))]
      clear hR
      go_simp
      refine (of_v Q5.out t5 (by simp) b66).mono ?_
      rintro e w' ⟨rfl, hw⟩
      exact hK _ _ (by first | exact belowOfEq hw | exact hw) rfl
    refine steps_cons rfl ?_ ?_
    · intro a w hR K hK
      obtain ⟨v65, e65, _, q65⟩ := hR.val 32 65 (by kernel_rfl) (by kernel_rfl)
      obtain rfl : v65 = (.int .u32 z) := q65
      obtain ⟨v67, e67, _, q67⟩ := hR.val 34 67 (by kernel_rfl) (by kernel_rfl)
      obtain rfl : v67 = (.int .u32 z) := q67
      rw [if_pos (hR.wants (o := _) rfl (by kernel_rfl : depB _ 31 = true) (by kernel_rfl : dstAt _ 31 = some 64) (fun _ h => h))]
      clear hR
      go_simp
      exact hK _ _ (belowSame _) rfl
    refine steps_cons rfl ?_ ?_
    · intro a w hR K hK
      obtain ⟨v64, e64, _, q64⟩ := hR.val 31 64 (by kernel_rfl) (by kernel_rfl)
      obtain rfl : v64 = (.bool true) := q64
      obtain ⟨v68, e68, _, q68⟩ := hR.val 35 68 (by kernel_rfl) (by kernel_rfl)
      obtain rfl : v68 = (.bool true) := q68
      rw [if_pos (wanted_none rfl)]
      clear hR
      go_simp
      exact hK _ _ (belowSame _) rfl
    refine steps_cons rfl ?_ ?_
    · intro a w hR K hK
      obtain ⟨v69, e69, _, q69⟩ := hR.val 36 69 (by kernel_rfl) (by kernel_rfl)
      obtain rfl : v69 = (.bool true) := q69
      rw [if_pos (wanted_none rfl)]
      clear hR
      go_simp
      exact hK _ _ (belowSame _) rfl
    refine steps_cons rfl ?_ ?_
    · intro a w hR K hK
      have e0 : a.tmps.getD 0 undef = (.string s) := hR.old 0 (by kernel_rfl) rfl
      rw [if_pos (hR.wants (o := _) rfl (by kernel_rfl : depB _ 37 = true) (by kernel_rfl : dstAt _ 37 = some 70) (fun _ h => h))]
      clear hR
      go_simp
      exact hK _ _ (belowSame _) rfl
    refine steps_cons rfl ?_ ?_
    · intro a w hR K hK
      obtain ⟨v71, e71, _, q71⟩ := hR.val 38 71 (by kernel_rfl) (by kernel_rfl)
      obtain rfl : v71 = (.string s) := q71
      rw [if_pos (hR.wants (o := _) rfl (by kernel_rfl : depB _ 37 = true) (by kernel_rfl : dstAt _ 37 = some 70) (fun _ h => h))]
      clear hR
      go_simp
      refine (ks _).mono ?_
      rintro e w' ⟨rfl, hw⟩
      exact hK _ _ (by first | exact belowOfEq hw | exact hw) rfl
    refine steps_cons rfl ?_ ?_
    · intro a w hR K hK
      obtain ⟨v72, e72, _, q72⟩ := hR.val 39 72 (by kernel_rfl) (by kernel_rfl)
      obtain rfl : v72 = (.string y) := q72
      rw [if_pos (hR.wants (o := _) rfl (by kernel_rfl : depB _ 37 = true) (by kernel_rfl : dstAt _ 37 = some 70) (fun _ h => h))]
      clear hR
      go_simp
      exact hK _ _ (belowSame _) rfl
    refine steps_cons rfl ?_ ?_
    · intro a w hR K hK
      have e0 : a.tmps.getD 0 undef = (.string s) := hR.old 0 (by kernel_rfl) rfl
      rw [if_pos (hR.wants (o := _) rfl (by kernel_rfl : depB _ 37 = true) (by kernel_rfl : dstAt _ 37 = some 70) (fun _ h => h))]
      clear hR
      go_simp
      exact hK _ _ (belowSame _) rfl
    refine steps_cons rfl ?_ ?_
    · intro a w hR K hK
      obtain ⟨v74, e74, _, q74⟩ := hR.val 41 74 (by kernel_rfl) (by kernel_rfl)
      obtain rfl : v74 = (.string s) := q74
      rw [if_pos (hR.wants (o := _) rfl (by kernel_rfl : depB _ 37 = true) (by kernel_rfl : dstAt _ 37 = some 70) (fun _ h => h))]
      clear hR
      go_simp
      exact hK _ _ (belowSame _) rfl
    refine steps_cons rfl ?_ ?_
    · intro a w hR K hK
      obtain ⟨v75, e75, _, q75⟩ := hR.val 42 75 (by kernel_rfl) (by kernel_rfl)
      obtain rfl : v75 = (.int .i64 (s.size : Int)) := q75
      rw [if_pos (hR.wants (o := _) rfl (by kernel_rfl : depB _ 37 = true) (by kernel_rfl : dstAt _ 37 = some 70) (fun _ h => h))]
      clear hR
      go_simp
      exact hK _ _ (belowSame _) rfl
    refine steps_cons rfl ?_ ?_
    · intro a w hR K hK
      obtain ⟨v73, e73, _, q73⟩ := hR.val 40 73 (by kernel_rfl) (by kernel_rfl)
      obtain rfl : v73 = (.int .i64 (y.size : Int)) := q73
      obtain ⟨v76, e76, _, q76⟩ := hR.val 43 76 (by kernel_rfl) (by kernel_rfl)
      obtain rfl : v76 = (.int .i64 ((s.size : Int) + 4)) := q76
      rw [if_pos (hR.wants (o := _) rfl (by kernel_rfl : depB _ 37 = true) (by kernel_rfl : dstAt _ 37 = some 70) (fun _ h => h))]
      clear hR
      go_simp
      exact hK _ _ (belowSame _) rfl
    refine steps_cons rfl ?_ ?_
    · intro a w hR K hK
      obtain ⟨v70, e70, _, q70⟩ := hR.val 37 70 (by kernel_rfl) (by kernel_rfl)
      obtain rfl : v70 = (.bool true) := q70
      obtain ⟨v77, e77, _, q77⟩ := hR.val 44 77 (by kernel_rfl) (by kernel_rfl)
      obtain rfl : v77 = (.bool true) := q77
      rw [if_pos (wanted_none rfl)]
      clear hR
      go_simp
      exact hK _ _ (belowSame _) rfl
    refine steps_cons rfl ?_ ?_
    · intro a w hR K hK
      obtain ⟨v78, e78, _, q78⟩ := hR.val 45 78 (by kernel_rfl) (by kernel_rfl)
      obtain rfl : v78 = (.bool true) := q78
      rw [if_pos (wanted_none rfl)]
      clear hR
      go_simp
      exact hK _ _ (belowSame _) rfl
    exact steps_nil
  · intro a' w' hF
    obtain ⟨v8, e8, _, q8⟩ := hF.val 46 8 (by decide) (by kernel_rfl)
    obtain rfl : v8 = .bool true := q8
    have hd := hF.defers
    have hb := hF.bel
    clear hF
    go_wp2_with fail
    exact end_ret rfl e8 hd ⟨rfl, belowUndrew hb⟩
end Go.Proofs.Ytooapgeokonlhaa.sumParts
