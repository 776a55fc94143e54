/- ClockPlays: the walk. No condition. -/
import Derived.Test.YtepemmommldbeaaClockAlive
import Derived.Test.YtepemmommldbeaaRefClock
import Derived.Test.YtepemmommldbeaaRow
import Derived.Test.YtepemmommldbeaaHeldMore
import Derived.IntWalk
import Derived.Deep.DrawnRows
namespace Go.Proofs.Ytepemmommldbeaa.clockPlays
open Go.RowKit
set_option linter.unusedVariables false
set_option linter.unusedSimpArgs false
open CL RC
attribute [local go_sem ↓] Go.wp_at_zero Go.wp_at_succ

/-- The clock and the document's, both made here, behind k steps of the list's. -/
def At (W : World) (zs : List Int) (g r k : Nat) (w : World) : Prop :=
  ∃ F G, ClockIs w W.heap.size g (S zs k) (k : Int) (lastW (hist zs k)) (brokeN zs k) F ∧ RefIs w W.heap.size r (S zs k) (hist zs k) (!brokeN zs k) G ∧ Apart F G ∧ Below W.heap.size W w
/-- The clock has gone, the document's has not. -/
def Half (W : World) (zs : List Int) (g r k : Nat) (G : Nat → Prop) (w : World) : Prop :=
  ∃ F, ClockIs w W.heap.size g (S zs (k + 1)) ((k + 1 : Nat) : Int) (lastW (hist zs (k + 1))) (brokeN zs (k + 1)) F ∧ RefIs w W.heap.size r (S zs k) (hist zs k) (!brokeN zs k) G ∧ Apart F G ∧ Below W.heap.size W w
theorem At.one {W w w' : World} {zs : List Int} {g r k : Nat} {x : Int} {F G : Nat → Prop} (hx : zs[k]? = some x) (h : ClockIs w W.heap.size g (S zs k) (k : Int) (lastW (hist zs k)) (brokeN zs k) F) (h2 : RefIs w W.heap.size r (S zs k) (hist zs k) (!brokeN zs k) G) (ha : Apart F G) (hb : Below W.heap.size W w)
    (ho : StepOut w W.heap.size g (S zs k + clampI x) ((k : Int) + 1) (nextW (lastW (hist zs k)) (clampI x)) (brokeN zs k || badW (nextW (lastW (hist zs k)) (clampI x))) F w') : Half W zs g r k G w' := by
  obtain ⟨F', h', hk, hg⟩ := ho
  rw [S_snoc zs k x hx, nextW_last, hist_snoc zs k x hx] at h'
  exact ⟨F', by simpa [brokeN] using h', h2.keeps hk ha.symm, hg.apart ha h2.lt, hk.after hb h.ge hb.size⟩
theorem Half.two {W w w' : World} {zs : List Int} {g r k : Nat} {x : Int} {G : Nat → Prop} (hx : zs[k]? = some x) (h : Half W zs g r k G w)
    (ho : RefOut w W.heap.size r (S zs k + clampI x) (hist zs k ++ [clampI x]) ((!brokeN zs k) && !badW (lastW (hist zs k ++ [clampI x]))) G w') : At W zs g r (k + 1) w' := by
  obtain ⟨F, h1, h2, ha, hb⟩ := h
  obtain ⟨G', h', hk, hg⟩ := ho
  rw [S_snoc zs k x hx, hist_snoc zs k x hx] at h'
  exact ⟨F, G', h1.keeps hk ha, by simpa [brokeN] using h', (hg.apart ha.symm h1.lt).symm, hk.after hb h2.ge hb.size⟩
theorem none_hist (zs : List Int) : hist zs 0 = [] := rfl

theorem Half.below {W w : World} {zs : List Int} {g r k : Nat} {G : Nat → Prop} (h : Half W zs g r k G w) : Below W.heap.size W w := by
  obtain ⟨F, h1, h2, ha, hb⟩ := h
  exact hb
theorem At.below {W w : World} {zs : List Int} {g r k : Nat} (h : At W zs g r k w) : Below W.heap.size W w := by
  obtain ⟨F, G, h1, h2, ha, hb⟩ := h
  exact hb
theorem Half.step {W w : World} {zs : List Int} {g r k : Nat} {G : Nat → Prop} (h : Half W zs g r k G w) (hsm : Small (hist zs k)) (h0 : 0 ≤ S zs k) (h1 : S zs k ≤ 100000) (h2 : (hist zs k).length ≤ 10000) (x N1 : Int) (hN : S zs k + clampI x = N1) :
    Calls Try.prog 13 #[.pointer (some ⟨r, 0, none⟩), .int .i64 x] w fun e w' => e = .returned (.int .i64 N1) ∧ (zs[k]? = some x → At W zs g r (k + 1) w') := by
  have h' := h
  obtain ⟨F, _, hR, _, _⟩ := h
  rw [← hN]
  exact (RC.step_any hR hsm h0 h1 h2 x).mono fun e w' ⟨he, ho⟩ => ⟨he, fun hx => h'.two hx ho⟩
theorem At.cells {W w : World} {zs : List Int} {g r k : Nat} (h : At W zs g r k w) : w.cell? ⟨r, 0, none⟩ = some (.int .i64 (S zs k)) ∧ w.cell? ⟨r, 2, none⟩ = some (.bool (!brokeN zs k)) := by
  obtain ⟨F, G, h1, h2, ha, hb⟩ := h
  exact h2.cells
theorem At.now {W w : World} {zs : List Int} {g r k : Nat} (h : At W zs g r k w) : Calls Try.prog 14 #[.pointer (some ⟨g, 0, none⟩)] w fun e w' => e = .returned (.int .i64 (S zs k)) ∧ w = w' := by
  obtain ⟨F, G, h1, h2, ha, hb⟩ := h
  exact now_any h1
theorem At.now_ {W w : World} {zs : List Int} {g r k : Nat} {N1 : Int} (h : At W zs g r k w) (hN : N1 = S zs k) : Calls Try.prog 14 #[.pointer (some ⟨g, 0, none⟩)] w fun e w' => e = .returned (.int .i64 N1) ∧ w = w' := hN ▸ h.now
theorem At.real {W w : World} {zs : List Int} {g r k : Nat} (h : At W zs g r (k + 1) w) : Calls Try.prog 15 #[.pointer (some ⟨g, 0, none⟩)] w fun e w' => e = .returned (.int .i64 ((k : Int) + 1)) ∧ w = w' := by
  obtain ⟨F, G, h1, h2, ha, hb⟩ := h
  exact real_any h1
theorem At.kept {W w : World} {zs : List Int} {g r k : Nat} (h : At W zs g r k w) : Calls Try.prog 11 #[.pointer (some ⟨g, 0, none⟩)] w fun e w' => e = .returned (.bool (!brokeN zs k)) ∧ w = w' := by
  obtain ⟨F, G, h1, h2, ha, hb⟩ := h
  exact kept_any h1
theorem At.start1 {W w1 : World} {zs : List Int} (h : ClockIs w1 W.heap.size W.heap.size 0 0 [] false (only W.heap.size)) (hk : Keeps (fun _ => False) W w1) :
    At W zs W.heap.size w1.heap.size 0 (w1.alloc (.cells #[.int .i64 0, .slice none 0 0, .bool true] 28)) := by
  refine ⟨only W.heap.size, only w1.heap.size, h.keeps ((Keeps.refl (fun _ => False) w1).alloc _) (none_apart _), ⟨hk.size, none, 0, Blk.new _ _ _, World.ownsRow_nil _ _ _ _, ?_⟩, ?_, (hk.alloc _).belowW⟩
  · funext k
    simp [only, Value.ownBlock]
  · intro k h1 h2
    have := h.lt k h1
    rw [show k = w1.heap.size from h2] at this
    omega
theorem At.start2 {W w1 : World} {zs : List Int} (hk : Keeps (fun _ => False) W w1) :
    At W zs (w1.heap.size + 1) w1.heap.size 0 ((w1.alloc (.cells #[.int .i64 0, .slice none 0 0, .bool true] 28)).alloc (.cells #[.int .i64 0, .int .i64 0, .pointer none, .bool false] 31)) := by
  have hs := hk.size
  refine ⟨only (w1.heap.size + 1), only w1.heap.size, ⟨by omega, (fun x hx => absurd hx (by simp [lastW, hist])), .inl ⟨rfl, ?_, rfl⟩⟩, ⟨hk.size, none, 0, (Blk.new _ _ _).alloc _, World.ownsRow_nil _ _ _ _, ?_⟩, ?_, ((hk.alloc _).alloc _).belowW⟩
  · have := Blk.new (w1.alloc (.cells #[.int .i64 0, .slice none 0 0, .bool true] 28)) 31 #[.int .i64 0, .int .i64 0, .pointer none, .bool false]
    rw [show (w1.alloc (.cells #[.int .i64 0, .slice none 0 0, .bool true] 28)).heap.size = w1.heap.size + 1 by simp] at this
    exact this
  · funext k
    simp [only, Value.ownBlock]
  · intro k h1 h2
    unfold only at h1 h2
    omega

set_option maxHeartbeats 3000000 in
set_option maxRecDepth 100000 in
theorem walk (a0 : Bool) (a1 : Option Addr) (len1 cap1 : Nat) (z1 : List Int) (W : World) (w1 : IsRow .i64 W a1 len1 cap1 z1) :
    Calls Try.prog 3 #[.bool a0, .slice a1 len1 cap1] W fun e w' => e = .returned (.bool true) ∧ Below W.heap.size W w' := by
  obtain ⟨hl1, hl2, hl3⟩ := w1.len
  unfold maxLen at hl2
  by_cases c1 : (300 : Int) < len1
  · go_enter Try.func3, Try.ntmps3
    go_wp2_with (go_at_call 9; refine (alive_any _).mono ?_; rintro e w1 ⟨rfl, hb⟩)
    go_ret
    exact ⟨rfl, hb⟩
  have W1 := Lib.hid w1
  clear w1
  go_enter Try.func3, Try.ntmps3
  go_upto_if 15 with (go_at_call 10; refine (new_any _).mono ?_; rintro e w1 ⟨rfl, hr⟩; have R1 := Lib.hid hr; clear hr)
  go_cut [5, 6] (fun c r wx => ∃ g rr : Nat, c = .pointer (some ⟨g, 0, none⟩) ∧ r = .pointer (some ⟨rr, 0, none⟩) ∧ At W z1 g rr 0 wx)
  case first =>
    have hs := R1.out.2.size
    cases a0
    · go_wp2_with fail
      go_meet
      exact ⟨_, _, rfl, rfl, At.start1 R1.out.1 R1.out.2⟩
    · go_wp2_with fail
      go_meet
      exact ⟨_, _, rfl, rfl, At.start2 R1.out.2⟩
  case rest =>
    obtain ⟨g, rr, rfl, rfl, hA⟩ := hcut
    clear R1
    have HA := Lib.hid hA
    obtain ⟨F, G, hC, _, _, _⟩ := hA
    replace hC : ClockIs wc W.heap.size g 0 0 [] false F := hC
    go_wp2_with (go_at_call 11; refine (kept_any hC).mono ?_; rintro e w' ⟨rfl, rfl⟩)
    go_loopw [7] (fun i wr => ∃ k : Nat, i = .int .i64 (k : Int) ∧ k ≤ len1 ∧ At W z1 g rr k wr) (fun i _ => len1 - (intOf i).toNat)
    case atStart => exact ⟨0, rfl, by omega, HA.out⟩
    case round =>
      obtain ⟨k, rfl, hk, ho⟩ := hrel
      clear HA hC
      obtain ⟨F, G, hC, hR, hap, hB⟩ := ho
      have hS := S_b z1 k
      by_cases hlt : k < len1
      · obtain ⟨b, off, rfl, hb, hc⟩ := W1.out.cells (by omega)
        obtain ⟨x, hx⟩ : ∃ x, z1[k]? = some x := ⟨_, List.getElem?_eq_getElem (by omega)⟩
        have hc0 : W.cell? ⟨b, off + k, none⟩ = some (.int .i64 x) := by rw [hc k hlt]; simp [hx]
        have hcell : wr.cell? ⟨b, off + k, none⟩ = some (.int .i64 x) := (hB.cell hb).trans hc0
        have C0 := Lib.hid hc0
        have HX := Lib.hid hx
        have hCd := hC.keeps ((Keeps.refl (fun _ => False) wr).drew) (none_apart _)
        have hRd := hR.keeps ((Keeps.refl (fun _ => False) wr).drew) (none_apart _)
        have hBd : Below W.heap.size W wr.drew := hB.drew
        have hst := step_any hCd (by omega) (by omega) (by omega) (by omega) x
        have hk0 : (0 : Int) ≤ (k : Int) := by omega
        have hk1 : (k : Int) < (len1 : Int) := by omega
        have hl2 : (hist z1 k).length ≤ 10000 := by rw [hist_len (by omega)]; omega
        have hsm := hist_small z1 k
        have hlen : k + 1 ≤ z1.length := by omega
        obtain ⟨N1, hN1⟩ : ∃ N1, S z1 k + clampI x = N1 := ⟨_, rfl⟩
        have hN2 : N1 = S z1 (k + 1) := by rw [← hN1]; exact S_snoc z1 k x hx
        have HN1 := Lib.hid hN1
        have HN2 := Lib.hid hN2
        rw [hN1] at hst
        have hwr : IntKind.i64.wrap ((k : Int) + 1) = (k : Int) + 1 := IntWalk.i64_in _ (by omega)
        clear hc hc0 hx hN1 hN2
        go_wp2_with fail
        refine wp_region_held_drew (S := fun w' => w'.cell? ⟨b, off + k, none⟩ = some (.int .i64 x)) (by kernel_rfl) hcell (fun hHeld => ?_)
        refine wpAnyH_take (i := 0) (oi := ⟨some 31, _, _, _, _, _⟩) (v := ?_) rfl (by kernel_rfl) (by kernel_rfl) (by kernel_rfl) (fun _ _ _ h => h) (Or.inl ⟨by rfl, ?_⟩) (by assumption) ?_
        rotate_left
        · (intro w hSw; (try dsimp only at hSw); go_split_ands; go_simp); try (with_reducible rfl)
        try simp only [Act.put, List.setIfInBounds_toArray, List.set_cons_zero, List.set_cons_succ]
        refine wpAnyH_take (i := 1) (oi := ⟨some 32, _, _, _, _, _⟩) (v := ?_) rfl (by kernel_rfl) (by kernel_rfl) (by kernel_rfl) (fun _ _ _ h => h) (Or.inl ⟨by rfl, ?_⟩) (by assumption) ?_
        rotate_left
        · (intro w hSw; (try dsimp only at hSw); go_split_ands; go_simp); try (with_reducible rfl)
        try simp only [Act.put, List.setIfInBounds_toArray, List.set_cons_zero, List.set_cons_succ]
        refine wpAnyH_take (i := 2) (oi := ⟨some 33, _, _, _, _, _⟩) (v := ?_) rfl (by kernel_rfl) (by kernel_rfl) (by kernel_rfl) (fun _ _ _ h => h) (Or.inl ⟨by rfl, ?_⟩) (by assumption) ?_
        rotate_left
        · (intro w hSw; (try dsimp only at hSw); go_split_ands; go_simp); try (with_reducible rfl)
        try simp only [Act.put, List.setIfInBounds_toArray, List.set_cons_zero, List.set_cons_succ]
        refine wpAnyH_take (i := 3) (oi := ⟨some 34, _, _, _, _, _⟩) (v := ?_) rfl (by kernel_rfl) (by kernel_rfl) (by kernel_rfl) (fun _ _ _ h => h) (Or.inl ⟨by rfl, ?_⟩) (by assumption) ?_
        rotate_left
        · (intro w hSw; (try dsimp only at hSw); go_split_ands; go_simp); try (with_reducible rfl)
        try simp only [Act.put, List.setIfInBounds_toArray, List.set_cons_zero, List.set_cons_succ]
        refine wpAnyH_take (i := 4) (oi := ⟨some 35, _, _, _, _, _⟩) (v := ?_) rfl (by kernel_rfl) (by kernel_rfl) (by kernel_rfl) (fun _ _ _ h => h) (Or.inl ⟨by rfl, ?_⟩) (by assumption) ?_
        rotate_left
        · (intro w hSw; (try dsimp only at hSw); go_split_ands; go_simp); try (with_reducible rfl)
        try simp only [Act.put, List.setIfInBounds_toArray, List.set_cons_zero, List.set_cons_succ]
        refine wpAnyH_take (i := 6) (oi := ⟨some 37, _, _, _, _, _⟩) (v := ?_) rfl (by kernel_rfl) (by kernel_rfl) (by kernel_rfl) (fun _ _ _ h => h) (Or.inl ⟨by rfl, ?_⟩) (by assumption) ?_
        rotate_left
        · (intro w hSw; (try dsimp only at hSw); go_split_ands; go_simp); try (with_reducible rfl)
        try simp only [Act.put, List.setIfInBounds_toArray, List.set_cons_zero, List.set_cons_succ]
        refine wpAnyH_take (i := 7) (oi := ⟨some 38, _, _, _, _, _⟩) (v := ?_) rfl (by kernel_rfl) (by kernel_rfl) (by kernel_rfl) (fun _ _ _ h => h) (Or.inl ⟨by rfl, ?_⟩) (by assumption) ?_
        rotate_left
        · (intro w hSw; (try dsimp only at hSw); go_split_ands; go_simp); try (with_reducible rfl)
        try simp only [Act.put, List.setIfInBounds_toArray, List.set_cons_zero, List.set_cons_succ]
        refine wpAnyH_take (i := 8) (oi := ⟨some 39, _, _, _, _, _⟩) (v := ?_) rfl (by kernel_rfl) (by kernel_rfl) (by kernel_rfl) (fun _ _ _ h => h) (Or.inl ⟨by rfl, ?_⟩) (by assumption) ?_
        rotate_left
        · (intro w hSw; (try dsimp only at hSw); go_split_ands; go_simp); try (with_reducible rfl)
        try simp only [Act.put, List.setIfInBounds_toArray, List.set_cons_zero, List.set_cons_succ]
        refine wpAnyH_take (i := 9) (oi := ⟨some 40, _, _, _, _, _⟩) (v := ?_) rfl (by kernel_rfl) (by kernel_rfl) (by kernel_rfl) (fun _ _ _ h => h) (Or.inl ⟨by rfl, ?_⟩) (by assumption) ?_
        rotate_left
        · (intro w hSw; (try dsimp only at hSw); go_split_ands; go_simp); try (with_reducible rfl)
        try simp only [Act.put, List.setIfInBounds_toArray, List.set_cons_zero, List.set_cons_succ]
        refine wpAnyH_take (i := 10) (oi := ⟨some 41, _, _, _, _, _⟩) (v := ?_) rfl (by kernel_rfl) (by kernel_rfl) (by kernel_rfl) (fun _ _ _ h => h) (Or.inl ⟨by rfl, ?_⟩) (by assumption) ?_
        rotate_left
        · (intro w hSw; (try dsimp only at hSw); go_split_ands; go_simp); try (with_reducible rfl)
        try simp only [Act.put, List.setIfInBounds_toArray, List.set_cons_zero, List.set_cons_succ]
        refine wpAnyH_ready (rs := [5]) (by kernel_rfl) (by simp) ?_
        refine AllReadyH.cons (o := ⟨some 36, _, _, _, _, _⟩) rfl (fun K hK => ?_) AllReadyH.nil
        go_simp
        go_at_call 12
        refine hst.mono ?_
        rintro e w2 ⟨rfl, hr⟩
        rw [← HN1.out] at hr
        have H2 := Lib.hid (At.one HX.out hCd hRd hap hBd hr)
        have hcell2 : w2.cell? ⟨b, off + k, none⟩ = some (.int .i64 x) := ((H2.out.below).cell hb).trans C0.out
        clear hr
        try (go_wp2_with fail)
        refine hK.out _ _ ?_ (fun hHeld => ?_)
        · exact hcell2
        clear hK K
        refine wpAnyH_ready (rs := [11]) (by kernel_rfl) (by simp) ?_
        refine AllReadyH.cons (o := ⟨some 42, _, _, _, _, _⟩) rfl (fun K hK => ?_) AllReadyH.nil
        go_simp
        go_at_call 13
        refine (H2.out.step hsm (by omega) (by omega) hl2 x _ HN1.out).mono ?_
        rintro e w3 ⟨rfl, hr⟩
        have H3 := Lib.hid (hr HX.out)
        have hcell3 : w3.cell? ⟨b, off + k, none⟩ = some (.int .i64 x) := ((H3.out.below).cell hb).trans C0.out
        have n0 : w3.cell? ⟨rr, 0, none⟩ = some (.int .i64 N1) := by rw [HN2.out]; exact H3.out.cells.1
        have n2 := H3.out.cells.2
        clear hr
        try (go_wp2_with fail)
        refine hK.out _ _ ?_ (fun hHeld => ?_)
        · exact hcell3
        clear hK K
        refine wpAnyH_imp (S' := fun w' => w'.cell? ⟨rr, 0, none⟩ = some (.int .i64 N1) ∧ w'.cell? ⟨rr, 2, none⟩ = some (.bool (!brokeN z1 (k + 1))) ∧ w'.cell? ⟨b, off + k, none⟩ = some (.int .i64 x)) (fun w h => h.2.2) _ _ _ _ ?_
        have hHeld2 : (fun w' : World => w'.cell? ⟨rr, 0, none⟩ = some (.int .i64 N1) ∧ w'.cell? ⟨rr, 2, none⟩ = some (.bool (!brokeN z1 (k + 1))) ∧ w'.cell? ⟨b, off + k, none⟩ = some (.int .i64 x)) w3 := ⟨n0, n2, hcell3⟩
        refine wpAnyH_take (i := 12) (oi := ⟨some 43, _, _, _, _, _⟩) (v := ?_) rfl (by kernel_rfl) (by kernel_rfl) (by kernel_rfl) (fun _ _ _ h => h) (Or.inl ⟨by rfl, ?_⟩) (by assumption) ?_
        rotate_left
        · (intro w hSw; (try dsimp only at hSw); go_split_ands; go_simp); try (with_reducible rfl)
        try simp only [Act.put, List.setIfInBounds_toArray, List.set_cons_zero, List.set_cons_succ]
        refine wpAnyH_take (i := 13) (oi := ⟨some 44, _, _, _, _, _⟩) (v := ?_) rfl (by kernel_rfl) (by kernel_rfl) (by kernel_rfl) (fun _ _ _ h => h) (Or.inl ⟨by rfl, ?_⟩) (by assumption) ?_
        rotate_left
        · (intro w hSw; (try dsimp only at hSw); go_split_ands; go_simp); try (with_reducible rfl)
        try simp only [Act.put, List.setIfInBounds_toArray, List.set_cons_zero, List.set_cons_succ]
        refine wpAnyH_take (i := 14) (oi := ⟨some 45, _, _, _, _, _⟩) (v := ?_) rfl (by kernel_rfl) (by kernel_rfl) (by kernel_rfl) (fun _ _ _ h => h) (Or.inl ⟨by rfl, ?_⟩) (by assumption) ?_
        rotate_left
        · (intro w hSw; (try dsimp only at hSw); go_split_ands; go_simp); try (with_reducible rfl)
        try simp only [Act.put, List.setIfInBounds_toArray, List.set_cons_zero, List.set_cons_succ]
        refine wpAnyH_take (i := 16) (oi := ⟨some 47, _, _, _, _, _⟩) (v := ?_) rfl (by kernel_rfl) (by kernel_rfl) (by kernel_rfl) (fun _ _ _ h => h) (Or.inl ⟨by rfl, ?_⟩) (by assumption) ?_
        rotate_left
        · (intro w hSw; (try dsimp only at hSw); go_split_ands; go_simp); try (with_reducible rfl)
        try simp only [Act.put, List.setIfInBounds_toArray, List.set_cons_zero, List.set_cons_succ]
        refine wpAnyH_take (i := 17) (oi := ⟨some 48, _, _, _, _, _⟩) (v := ?_) rfl (by kernel_rfl) (by kernel_rfl) (by kernel_rfl) (fun _ _ _ h => h) (Or.inl ⟨by rfl, ?_⟩) (by assumption) ?_
        rotate_left
        · (intro w hSw; (try dsimp only at hSw); go_split_ands; go_simp); try (with_reducible rfl)
        try simp only [Act.put, List.setIfInBounds_toArray, List.set_cons_zero, List.set_cons_succ]
        refine wpAnyH_take (i := 18) (oi := ⟨some 49, _, _, _, _, _⟩) (v := ?_) rfl (by kernel_rfl) (by kernel_rfl) (by kernel_rfl) (fun _ _ _ h => h) (Or.inl ⟨by rfl, ?_⟩) (by assumption) ?_
        rotate_left
        · (intro w hSw; (try dsimp only at hSw); go_split_ands; go_simp); try (with_reducible rfl)
        try simp only [Act.put, List.setIfInBounds_toArray, List.set_cons_zero, List.set_cons_succ]
        refine wpAnyH_take (i := 19) (oi := ⟨some 50, _, _, _, _, _⟩) (v := ?_) rfl (by kernel_rfl) (by kernel_rfl) (by kernel_rfl) (fun _ _ _ h => h) (Or.inl ⟨by rfl, ?_⟩) (by assumption) ?_
        rotate_left
        · (intro w hSw; (try dsimp only at hSw); go_split_ands; go_simp); try (with_reducible rfl)
        try simp only [Act.put, List.setIfInBounds_toArray, List.set_cons_zero, List.set_cons_succ]
        refine wpAnyH_ready (rs := [15]) (by kernel_rfl) (by simp) ?_
        refine AllReadyH.cons (o := ⟨some 46, _, _, _, _, _⟩) rfl (fun K hK => ?_) AllReadyH.nil
        go_simp
        go_at_call 14
        refine (H3.out.now_ HN2.out).mono ?_
        rintro e w' ⟨rfl, rfl⟩
        try (go_wp2_with fail)
        refine hK.out _ _ ?_ (fun hHeld => ?_)
        · exact ⟨n0, n2, hcell3⟩
        clear hK K
        refine wpAnyH_take (i := 20) (oi := ⟨some 51, _, _, _, _, _⟩) (v := ?_) rfl (by kernel_rfl) (by kernel_rfl) (by kernel_rfl) (fun _ _ _ h => h) (Or.inl ⟨by rfl, ?_⟩) (by assumption) ?_
        rotate_left
        · (intro w hSw; (try dsimp only at hSw); go_split_ands; go_simp); try (with_reducible rfl)
        try simp only [Act.put, List.setIfInBounds_toArray, List.set_cons_zero, List.set_cons_succ]
        refine wpAnyH_take (i := 21) (oi := ⟨some 52, _, _, _, _, _⟩) (v := ?_) rfl (by kernel_rfl) (by kernel_rfl) (by kernel_rfl) (fun _ _ _ h => h) (Or.inl ⟨by rfl, ?_⟩) (by assumption) ?_
        rotate_left
        · (intro w hSw; (try dsimp only at hSw); go_split_ands; go_simp); try (with_reducible rfl)
        try simp only [Act.put, List.setIfInBounds_toArray, List.set_cons_zero, List.set_cons_succ]
        refine wpAnyH_take (i := 22) (oi := ⟨some 53, _, _, _, _, _⟩) (v := ?_) rfl (by kernel_rfl) (by kernel_rfl) (by kernel_rfl) (fun _ _ _ h => h) (Or.inl ⟨by rfl, ?_⟩) (by assumption) ?_
        rotate_left
        · (intro w hSw; (try dsimp only at hSw); go_split_ands; go_simp); try (with_reducible rfl)
        try simp only [Act.put, List.setIfInBounds_toArray, List.set_cons_zero, List.set_cons_succ]
        refine wpAnyH_take (i := 23) (oi := ⟨some 54, _, _, _, _, _⟩) (v := ?_) rfl (by kernel_rfl) (by kernel_rfl) (by kernel_rfl) (fun _ _ _ h => h) (Or.inl ⟨by rfl, ?_⟩) (by assumption) ?_
        rotate_left
        · (intro w hSw; (try dsimp only at hSw); go_split_ands; go_simp); try (with_reducible rfl)
        try simp only [Act.put, List.setIfInBounds_toArray, List.set_cons_zero, List.set_cons_succ]
        refine wpAnyH_take (i := 25) (oi := ⟨some 56, _, _, _, _, _⟩) (v := ?_) rfl (by kernel_rfl) (by kernel_rfl) (by kernel_rfl) (fun _ _ _ h => h) (Or.inl ⟨by rfl, ?_⟩) (by assumption) ?_
        rotate_left
        · (intro w hSw; (try dsimp only at hSw); go_split_ands; go_simp); try (with_reducible rfl)
        try simp only [Act.put, List.setIfInBounds_toArray, List.set_cons_zero, List.set_cons_succ]
        refine wpAnyH_take (i := 26) (oi := ⟨some 57, _, _, _, _, _⟩) (v := ?_) rfl (by kernel_rfl) (by kernel_rfl) (by kernel_rfl) (fun _ _ _ h => h) (Or.inl ⟨by rfl, ?_⟩) (by assumption) ?_
        rotate_left
        · (intro w hSw; (try dsimp only at hSw); go_split_ands; go_simp); try (with_reducible rfl)
        try simp only [Act.put, List.setIfInBounds_toArray, List.set_cons_zero, List.set_cons_succ]
        refine wpAnyH_ready (rs := [24]) (by kernel_rfl) (by simp) ?_
        refine AllReadyH.cons (o := ⟨some 55, _, _, _, _, _⟩) rfl (fun K hK => ?_) AllReadyH.nil
        go_simp
        go_at_call 15
        refine (H3.out.real).mono ?_
        rintro e w' ⟨rfl, rfl⟩
        try (go_wp2_with fail)
        refine hK.out _ _ ?_ (fun hHeld => ?_)
        · exact ⟨n0, n2, hcell3⟩
        clear hK K
        refine wpAnyH_take (i := 27) (oi := ⟨some 58, _, _, _, _, _⟩) (v := ?_) rfl (by kernel_rfl) (by kernel_rfl) (by kernel_rfl) (fun _ _ _ h => h) (Or.inl ⟨by rfl, ?_⟩) (by assumption) ?_
        rotate_left
        · (intro w hSw; (try dsimp only at hSw); go_split_ands; go_simp); try (with_reducible rfl)
        try simp only [Act.put, List.setIfInBounds_toArray, List.set_cons_zero, List.set_cons_succ]
        refine wpAnyH_take (i := 28) (oi := ⟨some 59, _, _, _, _, _⟩) (v := ?_) rfl (by kernel_rfl) (by kernel_rfl) (by kernel_rfl) (fun _ _ _ h => h) (Or.inl ⟨by rfl, ?_⟩) (by assumption) ?_
        rotate_left
        · (intro w hSw; (try dsimp only at hSw); go_split_ands; go_simp); try (with_reducible rfl)
        try simp only [Act.put, List.setIfInBounds_toArray, List.set_cons_zero, List.set_cons_succ]
        refine wpAnyH_take (i := 29) (oi := ⟨some 60, _, _, _, _, _⟩) (v := ?_) rfl (by kernel_rfl) (by kernel_rfl) (by kernel_rfl) (fun _ _ _ h => h) (Or.inl ⟨by rfl, ?_⟩) (by assumption) ?_
        rotate_left
        · (intro w hSw; (try dsimp only at hSw); go_split_ands; go_simp); try (with_reducible rfl)
        try simp only [Act.put, List.setIfInBounds_toArray, List.set_cons_zero, List.set_cons_succ]
        refine wpAnyH_take (i := 30) (oi := ⟨some 61, _, _, _, _, _⟩) (v := ?_) rfl (by kernel_rfl) (by kernel_rfl) (by kernel_rfl) (fun _ _ _ h => h) (Or.inl ⟨by rfl, ?_⟩) (by assumption) ?_
        rotate_left
        · (intro w hSw; (try dsimp only at hSw); go_split_ands; go_simp); try (with_reducible rfl)
        try simp only [Act.put, List.setIfInBounds_toArray, List.set_cons_zero, List.set_cons_succ]
        refine wpAnyH_take (i := 32) (oi := ⟨some 63, _, _, _, _, _⟩) (v := ?_) rfl (by kernel_rfl) (by kernel_rfl) (by kernel_rfl) (fun _ _ _ h => h) (Or.inl ⟨by rfl, ?_⟩) (by assumption) ?_
        rotate_left
        · (intro w hSw; (try dsimp only at hSw); go_split_ands; go_simp); try (with_reducible rfl)
        try simp only [Act.put, List.setIfInBounds_toArray, List.set_cons_zero, List.set_cons_succ]
        refine wpAnyH_take (i := 33) (oi := ⟨some 64, _, _, _, _, _⟩) (v := ?_) rfl (by kernel_rfl) (by kernel_rfl) (by kernel_rfl) (fun _ _ _ h => h) (Or.inl ⟨by rfl, ?_⟩) (by assumption) ?_
        rotate_left
        · (intro w hSw; (try dsimp only at hSw); go_split_ands; go_simp); try (with_reducible rfl)
        try simp only [Act.put, List.setIfInBounds_toArray, List.set_cons_zero, List.set_cons_succ]
        refine wpAnyH_take (i := 34) (oi := ⟨some 65, _, _, _, _, _⟩) (v := ?_) rfl (by kernel_rfl) (by kernel_rfl) (by kernel_rfl) (fun _ _ _ h => h) (Or.inl ⟨by rfl, ?_⟩) (by assumption) ?_
        rotate_left
        · (intro w hSw; (try dsimp only at hSw); go_split_ands; go_simp); try (with_reducible rfl)
        try simp only [Act.put, List.setIfInBounds_toArray, List.set_cons_zero, List.set_cons_succ]
        refine wpAnyH_take (i := 35) (oi := ⟨some 66, _, _, _, _, _⟩) (v := ?_) rfl (by kernel_rfl) (by kernel_rfl) (by kernel_rfl) (fun _ _ _ h => h) (Or.inl ⟨by rfl, ?_⟩) (by assumption) ?_
        rotate_left
        · (intro w hSw; (try dsimp only at hSw); go_split_ands; go_simp); try (with_reducible rfl)
        try simp only [Act.put, List.setIfInBounds_toArray, List.set_cons_zero, List.set_cons_succ]
        refine wpAnyH_ready (rs := [31]) (by kernel_rfl) (by simp) ?_
        refine AllReadyH.cons (o := ⟨some 62, _, _, _, _, _⟩) rfl (fun K hK => ?_) AllReadyH.nil
        go_simp
        go_at_call 11
        refine (H3.out.kept).mono ?_
        rintro e w' ⟨rfl, rfl⟩
        try (go_wp2_with fail)
        refine hK.out _ _ ?_ (fun hHeld => ?_)
        · exact ⟨n0, n2, hcell3⟩
        clear hK K
        refine wpAnyH_take (i := 36) (oi := ⟨some 67, _, _, _, _, _⟩) (v := ?_) rfl (by kernel_rfl) (by kernel_rfl) (by kernel_rfl) (fun _ _ _ h => h) (Or.inl ⟨by rfl, ?_⟩) (by assumption) ?_
        rotate_left
        · (intro w hSw; (try dsimp only at hSw); go_split_ands; go_simp); try (with_reducible rfl)
        try simp only [Act.put, List.setIfInBounds_toArray, List.set_cons_zero, List.set_cons_succ]
        refine wpAnyH_take (i := 37) (oi := ⟨some 68, _, _, _, _, _⟩) (v := ?_) rfl (by kernel_rfl) (by kernel_rfl) (by kernel_rfl) (fun _ _ _ h => h) (Or.inl ⟨by rfl, ?_⟩) (by assumption) ?_
        rotate_left
        · (intro w hSw; (try dsimp only at hSw); go_split_ands; go_simp); try (with_reducible rfl)
        try simp only [Act.put, List.setIfInBounds_toArray, List.set_cons_zero, List.set_cons_succ]
        refine wpAnyH_done (by kernel_rfl) ?_ _
        go_wp2_with fail
        go_roundw
        case rel => exact ⟨k + 1, by go_num, by omega, H3.out⟩
        case measure => simp [intOf]; omega
      · obtain rfl : k = len1 := by omega
        go_wp2_with (go_at_call 9; refine (alive_any _).mono ?_; rintro e w2 ⟨rfl, hb⟩)
        go_ret
        exact ⟨rfl, hB.trans (hb.mono hB.size)⟩
end Go.Proofs.Ytepemmommldbeaa.clockPlays
