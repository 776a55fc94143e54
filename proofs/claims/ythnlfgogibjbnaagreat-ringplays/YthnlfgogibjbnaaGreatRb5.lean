/- commonsbook.Book: stillInts; markedInts. No condition. -/
import Derived.Test.YthnlfgogibjbnaaGreatRb4
import Derived.Test.YthnlfgogibjbnaaGreatHeldMore
import Derived.Deep.RegionHeld3
namespace Go.Proofs.YthnlfgogibjbnaaGreat.RB
set_option maxRecDepth 100000
set_option maxRecDepth 100000
open Go.RowKit Go.Proofs.YthnlfgogibjbnaaGreat.Bk
set_option linter.unusedVariables false
set_option linter.unusedSimpArgs false

theorem ListsAt.cell {w : World} {B c : Nat} {a : Option Addr} {L : List Ls} (h : ListsAt w B a c L) {j : Nat} {l : Ls} (hj : L[j]? = some l) : ∃ b, a = some ⟨b, 0, none⟩ ∧ w.cell? ⟨b, j, none⟩ = some (.slice l.a l.xs.length l.c) := by
  have hjl : j < L.length := by
    rcases Nat.lt_or_ge j L.length with h | h
    · exact h
    · rw [List.getElem?_eq_none h] at hj; cases hj
  obtain ⟨b, rfl⟩ := own_place h.row (by omega)
  refine ⟨b, rfl, ?_⟩
  obtain ⟨ad, e2, hc⟩ := (Lies.of_own h.row).2 (by omega)
  injection e2 with e2
  subst e2
  have := hc j (hdr l) (by simp [hj])
  rwa [Go.WideShapes.add_plain, Nat.zero_add] at this
theorem get_lt {α : Type} {L : List α} {j : Nat} {l : α} (hj : L[j]? = some l) : j < L.length := by
  rcases Nat.lt_or_ge j L.length with h | h
  · exact h
  · rw [List.getElem?_eq_none h] at hj; cases hj
set_option maxHeartbeats 2000000 in
theorem still_Ints {w : World} {B k cI cW : Nat} {aI aW : Option Addr} {L M : List Ls} (h : BookAt w B k aI cI aW cW L M) (hLM : M.map (fun l => l.xs) = L.map (fun l => l.xs)) (hL : L.length ≤ 200) (hx : ∀ l ∈ L, l.xs.length ≤ 100000) :
    Calls Tryz.prog 24 #[.pointer (some ⟨k, 0, none⟩)] w fun e w' => e = .returned (.bool true) ∧ ∃ m, w' = w.drewN m := by
  have hlm : M.length = L.length := by have := congrArg List.length hLM; simpa using this
  obtain ⟨n, hnl⟩ : ∃ n, L.length = n := ⟨_, rfl⟩
  have k2 := own_caps h.i.row
  have k3 := own_caps h.s.row
  rw [hnl] at k2
  rw [hlm, hnl] at k3
  unfold maxLen at k2 k3
  have HH := Lib.hid h
  have HN := Lib.hid hnl
  have HLM := Lib.hid hLM
  have HX := Lib.hid hx
  have HM := Lib.hid (hlm.trans hnl)
  have hn2 : n ≤ 200 := by omega
  clear h hnl hLM hx hlm
  go_enter Tryz.func24, Tryz.ntmps24
  go_wp2
  go_loopw [3] (fun i wr => ∃ j : Nat, j ≤ n ∧ i = .int .i64 (j : Int) ∧ ∃ m, wr = w.drewN m) (fun i _ => n - (intOf i).toNat)
  case atStart => exact ⟨0, by omega, rfl, 0, rfl⟩
  case round =>
    obtain ⟨j, hj, rfl, hm⟩ := hrel
    have HM0 := Lib.hid hm
    have hB : Below w.heap.size w wr := by obtain ⟨m, rfl⟩ := hm; exact belowDrewN (belowSame _) m
    clear hm
    have c2 : wr.cell? ⟨k, 2, none⟩ = some (.slice aI n cI) := by have := (HH.out.old hB).blk.cell 2; rwa [HN.out] at this
    have c3 : wr.cell? ⟨k, 3, none⟩ = some (.slice aW n cW) := by have := (HH.out.old hB).blk.cell 3; rwa [HM.out] at this
    by_cases hlt : j < n
    · have hbk := HH.out.old hB
      obtain ⟨l, hl⟩ : ∃ l, L[j]? = some l := ⟨_, List.getElem?_eq_getElem (by rw [HN.out]; exact hlt)⟩
      obtain ⟨s, hs⟩ : ∃ s, M[j]? = some s := ⟨_, List.getElem?_eq_getElem (by rw [HM.out]; exact hlt)⟩
      have hsx : s.xs = l.xs := by
        have := congrArg (fun z => z[j]?) HLM.out
        simp only [List.getElem?_map, hl, hs, Option.map_some] at this
        injection this
      obtain ⟨bI, rfl, x0⟩ := hbk.i.cell hl
      obtain ⟨bW, rfl, x1⟩ := hbk.s.cell hs
      rw [hsx] at x1
      have i0 : (0 : Int) ≤ (j : Int) := by omega
      have i1 : (j : Int) < (n : Int) := by omega
      have o1 := Lies.of_own (hbk.i.own l (List.mem_of_getElem? hl))
      have o2 := Lies.of_own (hbk.s.own s (List.mem_of_getElem? hs))
      rw [hsx] at o2
      have hlx := HX.out l (List.mem_of_getElem? hl)
      have ks := fun q => same_ints l.a s.a l.xs.length l.c s.c l.xs (wr.drewN q) (o1.drewN q) (o2.drewN q) (by unfold maxLen; omega)
      have KS := Lib.hid ks
      obtain ⟨la, lc, lx⟩ := l
      obtain ⟨sa, sc, sx⟩ := s
      dsimp only at x0 x1 KS
      obtain ⟨z, hz⟩ : ∃ z, lx.length = z := ⟨_, rfl⟩
      rw [hz] at x0 x1 KS
      clear ks o1 o2 hl hs hsx hlx hz hbk hB
      go_wp2_with fail
      go_quiet ((go_at_call 17; exact Calls.quiet_of (KS.out _)))
      go_wp2_with fail
      go_roundw
      case rel => exact ⟨j + 1, by omega, by go_num, by obtain ⟨m, e⟩ := HM0.out; exact ⟨m + nq, by rw [e, World.drewN_drewN]⟩⟩
      case measure => simp [intOf]; omega
    · obtain rfl : j = n := by omega
      go_wp2_with fail
      go_ret
      exact ⟨rfl, HM0.out⟩
/-- A row of lists, each with its marks. -/
def MarkedAt (w : World) (a : Option Addr) (n : Nat) (L : List Ls) : Prop := L.length = n ∧ (0 < n → ∃ b, a = some ⟨b, 0, none⟩ ∧ ∀ j l, L[j]? = some l → w.cell? ⟨b, j, none⟩ = some (.slice l.a l.xs.length l.c)) ∧ ∀ j l, L[j]? = some l → l.xs = marks j 0 l.xs.length ∧ Lies w 1 l.a l.xs.length (l.xs.map val)
theorem MarkedAt.old {w w' : World} {a : Option Addr} {n : Nat} {L : List Ls} (h : MarkedAt w a n L) (hb : Below w.heap.size w w') : MarkedAt w' a n L := by
  refine ⟨h.1, fun h0 => ?_, fun j l hj => ⟨(h.2.2 j l hj).1, (h.2.2 j l hj).2.old (by decide) hb⟩⟩
  obtain ⟨b, e, hc⟩ := h.2.1 h0
  exact ⟨b, e, fun j l hj => (hb.cell (p := ⟨b, j, none⟩) (World.block_lt_of_cell? w ⟨b, j, none⟩ (hc j l hj))).trans (hc j l hj)⟩
set_option maxHeartbeats 2000000 in
theorem marked_Ints {w : World} {a : Option Addr} {n c : Nat} {L : List Ls} (h : MarkedAt w a n L) (hn : n ≤ 200) (hc : n ≤ c) (hcm : c ≤ maxLen) (hx : ∀ l ∈ L, l.xs.length ≤ 100000) :
    Calls Tryz.prog 69 #[.slice a n c] w fun e w' => e = .returned (.bool true) ∧ Below w.heap.size w w' := by
  unfold maxLen at hcm
  have HH := Lib.hid h
  have HX := Lib.hid hx
  clear h hx
  go_enter Tryz.func69, Tryz.ntmps69
  go_wp2
  go_loopw [3] (fun i wr => ∃ j : Nat, j ≤ n ∧ i = .int .i64 (j : Int) ∧ Below w.heap.size w wr) (fun i _ => n - (intOf i).toNat)
  case atStart => exact ⟨0, by omega, rfl, belowSame _⟩
  case round =>
    obtain ⟨j, hj, rfl, hB⟩ := hrel
    by_cases hlt : j < n
    · obtain ⟨l, hl⟩ : ∃ l, L[j]? = some l := ⟨_, List.getElem?_eq_getElem (by rw [HH.out.1]; exact hlt)⟩
      have hr := HH.out.old hB
      obtain ⟨b, rfl, hcell⟩ := hr.2.1 (by omega)
      have x0 := hcell j l hl
      obtain ⟨hm, hlie⟩ := hr.2.2 j l hl
      have hlx := HX.out l (List.mem_of_getElem? hl)
      obtain ⟨la, lc, lx⟩ := l
      dsimp only at x0 hm hlie hlx
      obtain ⟨z, hz⟩ : ∃ z, lx.length = z := ⟨_, rfl⟩
      rw [hz] at x0 hm hlie hlx
      have i0 : (0 : Int) ≤ (j : Int) := by omega
      have i1 : (j : Int) < (n : Int) := by omega
      have km := mark_ints j 0 z wr.drew (by omega) (by omega) (by omega)
      rw [show ((0 : Nat) : Int) = 0 from rfl, ← hm] at km
      have HLI := Lib.hid hlie
      have HXL := Lib.hid hlx
      have HB := Lib.hid hB
      have xd : wr.drew.cell? ⟨b, j, none⟩ = some (.slice la z lc) := x0
      clear hr hcell hm hlie hlx hz hl hB x0
      go_wp2_with fail
      refine wp_region_held_drew (S := (fun W => W.cell? ⟨b, j, none⟩ = some (.slice la z lc))) (by kernel_rfl) xd (fun hHeld => ?_)
      clear xd
      refine wpAnyH_take (i := 0) (oi := ⟨some 10, _, _, _, _, _⟩) (v := ?_) rfl (by kernel_rfl) (by kernel_rfl) (by kernel_rfl) (fun _ _ _ h => h) (Or.inl ⟨by rfl, ?_⟩) (by assumption) ?_
      rotate_left
      · (intro w hSw; (try dsimp only at hSw); go_split_ands; go_simp); try (with_reducible rfl)
      try simp only [Act.put, List.setIfInBounds_toArray, List.set_cons_zero, List.set_cons_succ]
      refine wpAnyH_take (i := 1) (oi := ⟨some 11, _, _, _, _, _⟩) (v := ?_) rfl (by kernel_rfl) (by kernel_rfl) (by kernel_rfl) (fun _ _ _ h => h) (Or.inl ⟨by rfl, ?_⟩) (by assumption) ?_
      rotate_left
      · (intro w hSw; (try dsimp only at hSw); go_split_ands; go_simp); try (with_reducible rfl)
      try simp only [Act.put, List.setIfInBounds_toArray, List.set_cons_zero, List.set_cons_succ]
      refine wpAnyH_take (i := 2) (oi := ⟨some 12, _, _, _, _, _⟩) (v := ?_) rfl (by kernel_rfl) (by kernel_rfl) (by kernel_rfl) (fun _ _ _ h => h) (Or.inl ⟨by rfl, ?_⟩) (by assumption) ?_
      rotate_left
      · (intro w hSw; (try dsimp only at hSw); go_split_ands; go_simp); try (with_reducible rfl)
      try simp only [Act.put, List.setIfInBounds_toArray, List.set_cons_zero, List.set_cons_succ]
      refine wpAnyH_take (i := 3) (oi := ⟨some 13, _, _, _, _, _⟩) (v := ?_) rfl (by kernel_rfl) (by kernel_rfl) (by kernel_rfl) (fun _ _ _ h => h) (Or.inl ⟨by rfl, ?_⟩) (by assumption) ?_
      rotate_left
      · (intro w hSw; (try dsimp only at hSw); go_split_ands; go_simp); try (with_reducible rfl)
      try simp only [Act.put, List.setIfInBounds_toArray, List.set_cons_zero, List.set_cons_succ]
      refine wpAnyH_take (i := 4) (oi := ⟨some 14, _, _, _, _, _⟩) (v := ?_) rfl (by kernel_rfl) (by kernel_rfl) (by kernel_rfl) (fun _ _ _ h => h) (Or.inl ⟨by rfl, ?_⟩) (by assumption) ?_
      rotate_left
      · (intro w hSw; (try dsimp only at hSw); go_split_ands; go_simp); try (with_reducible rfl)
      try simp only [Act.put, List.setIfInBounds_toArray, List.set_cons_zero, List.set_cons_succ]
      refine wpAnyH_take (i := 5) (oi := ⟨some 15, _, _, _, _, _⟩) (v := ?_) rfl (by kernel_rfl) (by kernel_rfl) (by kernel_rfl) (fun _ _ _ h => h) (Or.inl ⟨by rfl, ?_⟩) (by assumption) ?_
      rotate_left
      · (intro w hSw; (try dsimp only at hSw); go_split_ands; go_simp); try (with_reducible rfl)
      try simp only [Act.put, List.setIfInBounds_toArray, List.set_cons_zero, List.set_cons_succ]
      refine wpAnyH_take (i := 6) (oi := ⟨some 16, _, _, _, _, _⟩) (v := ?_) rfl (by kernel_rfl) (by kernel_rfl) (by kernel_rfl) (fun _ _ _ h => h) (Or.inl ⟨by rfl, ?_⟩) (by assumption) ?_
      rotate_left
      · (intro w hSw; (try dsimp only at hSw); go_split_ands; go_simp); try (with_reducible rfl)
      try simp only [Act.put, List.setIfInBounds_toArray, List.set_cons_zero, List.set_cons_succ]
      refine wpAnyH_take (i := 7) (oi := ⟨some 17, _, _, _, _, _⟩) (v := ?_) rfl (by kernel_rfl) (by kernel_rfl) (by kernel_rfl) (fun _ _ _ h => h) (Or.inl ⟨by rfl, ?_⟩) (by assumption) ?_
      rotate_left
      · (intro w hSw; (try dsimp only at hSw); go_split_ands; go_simp); try (with_reducible rfl)
      try simp only [Act.put, List.setIfInBounds_toArray, List.set_cons_zero, List.set_cons_succ]
      refine wpAnyH_take (i := 8) (oi := ⟨some 18, _, _, _, _, _⟩) (v := ?_) rfl (by kernel_rfl) (by kernel_rfl) (by kernel_rfl) (fun _ _ _ h => h) (Or.inl ⟨by rfl, ?_⟩) (by assumption) ?_
      rotate_left
      · (intro w hSw; (try dsimp only at hSw); go_split_ands; go_simp); try (with_reducible rfl)
      try simp only [Act.put, List.setIfInBounds_toArray, List.set_cons_zero, List.set_cons_succ]
      refine wpAnyH_take (i := 9) (oi := ⟨some 19, _, _, _, _, _⟩) (v := ?_) rfl (by kernel_rfl) (by kernel_rfl) (by kernel_rfl) (fun _ _ _ h => h) (Or.inl ⟨by rfl, ?_⟩) (by assumption) ?_
      rotate_left
      · (intro w hSw; (try dsimp only at hSw); go_split_ands; go_simp); try (with_reducible rfl)
      try simp only [Act.put, List.setIfInBounds_toArray, List.set_cons_zero, List.set_cons_succ]
      refine wpAnyH_ready (rs := [10]) (by kernel_rfl) (by simp) ?_
      refine AllReadyH.cons (o := ⟨some 20, _, _, _, _, _⟩) rfl (fun K hK => ?_) AllReadyH.nil
      go_simp
      refine km.mono ?_
      rintro e w7 ⟨a7, c7, rfl, ho7, hb7⟩
      have B7 := Lib.hid (belowUndrew hb7)
      have O7 := Lib.hid ho7
      clear hb7 ho7 km
      try (go_wp2_with fail)
      refine hK.out _ _ ?_ (fun hHeld => ?_)
      · exact (B7.out.cell (p := ⟨b, j, none⟩) (World.block_lt_of_cell? wr ⟨b, j, none⟩ hHeld)).trans hHeld
      clear hK K
      have ks := same_ints la a7 z lc c7 lx w7 (HLI.out.old (by decide) B7.out) (Lies.of_own O7.out) (by have := HXL.out; unfold maxLen; omega)
      refine wpAnyH_ready (rs := [11]) (by kernel_rfl) (by simp) ?_
      refine AllReadyH.cons (o := ⟨some 21, _, _, _, _, _⟩) rfl (fun K hK => ?_) AllReadyH.nil
      go_simp
      refine ks.mono ?_
      rintro e w8 ⟨rfl, m8, rfl⟩
      have HB8 := Lib.hid (belowDrewN (belowThen HB.out B7.out) m8)
      clear ks
      try (go_wp2_with fail)
      refine hK.out _ _ ?_ (fun hHeld => ?_)
      · exact hHeld
      clear hK K
      refine wpAnyH_take (i := 12) (oi := ⟨some 22, _, _, _, _, _⟩) (v := ?_) rfl (by kernel_rfl) (by kernel_rfl) (by kernel_rfl) (fun _ _ _ h => h) (Or.inl ⟨by rfl, ?_⟩) (by assumption) ?_
      rotate_left
      · (intro w hSw; (try dsimp only at hSw); go_split_ands; go_simp); try (with_reducible rfl)
      try simp only [Act.put, List.setIfInBounds_toArray, List.set_cons_zero, List.set_cons_succ]
      refine wpAnyH_done (by kernel_rfl) ?_ _
      go_wp2_with fail
      go_roundw
      case rel => exact ⟨j + 1, by omega, by go_num, HB8.out⟩
      case measure => simp [intOf]; omega
    · obtain rfl : j = n := by omega
      go_wp2_with fail
      go_ret
      exact ⟨rfl, hB⟩
end Go.Proofs.YthnlfgogibjbnaaGreat.RB
