/- NetPlays' reference: Take. No condition. -/
import Derived.Test.YtanhdcffbdhkcaaNp1
namespace Go.Proofs.Ytanhdcffbdhkcaa.NP
set_option maxRecDepth 100000
open Go.RowKit Go.Proofs.Ytanhdcffbdhkcaa.RP Go.Proofs.Ytanhdcffbdhkcaa.CM Go.Proofs.Ytanhdcffbdhkcaa.NT
set_option linter.unusedVariables false
set_option linter.unusedSimpArgs false

section
variable {w w' W w1 : World} {B r c kc : Nat} {a ka : Option Addr} {xs ys : List Pk} {cs : List (Int × Int)}
theorem RefOut.from (hb : Below w.heap.size w W) (ho : RefOut W B r a ka ys cs w') : RefOut w B r a ka ys cs w' := by
  obtain ⟨a', c', ka', kc', k1, k2, k3⟩ := ho
  refine ⟨a', c', ka', kc', k1, (Keeps.of_below hb (fun k => k = r)).trans k2 (fun _ _ h => h), fun k hk => ?_⟩
  rcases k3 k hk with h | h
  · exact .inl h
  · have := hb.size; exact .inr (by omega)
theorem RefOut.then_ (ho : RefOut w B r a ka ys cs W) (hb : Below W.heap.size W w') : RefOut w B r a ka ys cs w' := by
  obtain ⟨a', c', ka', kc', k1, k2, k3⟩ := ho
  exact ⟨a', c', ka', kc', k1.old hb, k2.trans (Keeps.of_below hb (fun _ => False)) (fun _ _ h => h.elim), k3⟩
/-- The same, and a block y beside it that the call made. -/
def RefOutY (w : World) (B r : Nat) (a ka : Option Addr) (xs : List Pk) (cs : List (Int × Int)) (y : Nat) (t : TypeId) (vs : Array Value) (w' : World) : Prop :=
  ∃ a' c' ka' kc', RefAt w' B r a' c' ka' kc' xs cs ∧ Keeps (fun k => k = r) w w' ∧ Grows w (refF r a ka) (refF r a' ka') ∧ ¬ refF r a' ka' y ∧ Blk w' y t vs
theorem RefOut.beside (h : RefAt w B r a c ka kc xs cs) (hb : Below w.heap.size w W) (ho : RefOut W B r a ka ys cs w') {y : Nat} {t : TypeId} {vs : Array Value} (hy : w.heap.size ≤ y) (hY : Blk W y t vs) : RefOutY w B r a ka ys cs y t vs w' := by
  obtain ⟨a', c', ka', kc', k1, k2, k3⟩ := ho
  have hr := h.blk.lt
  have hs := hb.size
  refine ⟨a', c', ka', kc', k1, (Keeps.of_below hb (fun k => k = r)).trans k2 (fun _ _ h => h), fun k hk => ?_, fun hk => ?_, hY.keeps k2 (fun e => by have e' : y = r := e; omega)⟩
  · rcases k3 k hk with h | h
    · exact .inl h
    · exact .inr (by omega)
  · rcases k3 y hk with h2 | h2
    · have := h.lt y h2; omega
    · have := hY.lt; omega
theorem RefOutY.set {y : Nat} {t : TypeId} {vs : Array Value} (ho : RefOutY w B r a ka ys cs y t vs W) (hy : w.heap.size ≤ y) (i : Nat) (u : Value) : RefOutY w B r a ka ys cs y t (vs.setIfInBounds i u) (W.setCell ⟨y, i, none⟩ u) := by
  obtain ⟨a', c', ka', kc', k1, k2, k3, k4, k5⟩ := ho
  have hk : Keeps (fun k => k = y) W (W.setCell ⟨y, i, none⟩ u) := Keeps.setCell (S := fun k => k = y) (p := ⟨y, i, none⟩) (Keeps.refl _ _) (fun _ => rfl) _
  exact ⟨a', c', ka', kc', k1.keeps hk (fun k h1 h2 => k4 (by have e : k = y := h2; exact e ▸ h1)), k2.setCell (fun hlt => by have e : y < w.heap.size := hlt; omega) u, k3, k4, k5.set_ i u⟩
theorem RefOutY.out {y : Nat} {t : TypeId} {vs : Array Value} (ho : RefOutY w B r a ka ys cs y t vs W) : RefOut w B r a ka ys cs W := by
  obtain ⟨a', c', ka', kc', k1, k2, k3, _, _⟩ := ho
  exact ⟨a', c', ka', kc', k1, k2, k3⟩
theorem RefAt.capLe (h : RefAt w B r a c ka kc xs cs) : xs.length ≤ c ∧ c ≤ maxLen := by
  rcases h.row.2 with ⟨h0, h1⟩ | ⟨g', cap, cur, h0, _, _, h1, h2, _⟩
  · injection h0 with _ h2 h3
    exact ⟨by omega, by unfold maxLen; omega⟩
  · injection h0 with _ _ h3
    exact ⟨by omega, by omega⟩
/-- An element of the row. -/
theorem RefAt.at_ (h : RefAt w B r a c ka kc xs cs) {k : Nat} (hk : k < xs.length) : ∃ b, a = some ⟨b, 0, none⟩ ∧ b < w.heap.size ∧ w.cell? ⟨b, k * 3, none⟩ = some (.int .i64 (xs.getD k pk0).f) ∧ w.cell? ⟨b, k * 3 + 1, none⟩ = some (.int .i64 (xs.getD k pk0).t) ∧ w.cell? ⟨b, k * 3 + 2, none⟩ = some (.string (xs.getD k pk0).d) := by
  obtain ⟨b, cap, hv1, _, _⟩ := h.row.form (by omega)
  injection hv1 with hv1 hv2 hv3
  subst hv1
  have hx : xs.getD k pk0 = xs[k] := by rw [List.getD_eq_getElem?_getD, List.getElem?_eq_getElem hk]; rfl
  have hc : ∀ j u, j < 3 → (val xs[k])[j]? = some u → w.cell? ⟨b, k * 3 + j, none⟩ = some u := fun j u hj hu => by
    have := h.row.cells (g := b) rfl (k * 3 + j) u (by rw [flat_at val_len xs k j hk hj, hu])
    rwa [addr_add, Nat.zero_add] at this
  rw [hx]
  have h0 := hc 0 _ (by omega) rfl
  rw [Nat.add_zero] at h0
  exact ⟨b, rfl, World.block_lt_of_cell? w _ h0, h0, hc 1 _ (by omega) rfl, hc 2 _ (by omega) rfl⟩
theorem row_more2 {w W W' : World} {a : Option Addr} {c n : Nat} {zs : List Value} (h : W.ownsRow w.heap.size RK 3 (.slice a n c) n zs) (hb : Below w.heap.size w W) (hg : W.grownBy W' (Value.slice a 0 0).ownBlock) : Below w.heap.size w W' := row_more (a' := none) h hb hg
theorem row_first {W W' : World} (hg : W.grownBy W' (Value.slice none 0 0).ownBlock) : Below W.heap.size W W' := row_more2 (World.ownsRow_nil _ _ _ _) (belowSame _) hg
theorem RefAt.lies (h : RefAt w B r a c ka kc xs cs) : Lies w 3 a xs.length (xs.flatMap val) := Lies.of_own h.row
set_option maxHeartbeats 4000000 in
theorem rtake_in (h : RefAt w B r a c ka kc xs cs) (k : Int) (hk : inB xs k = true) (hl : xs.length ≤ 2000) :
    Calls Try.prog 22 #[.pointer (some ⟨r, 0, none⟩), .int .i64 k] w fun e w' => e = .returned (.tuple #[agg (getB xs k), .bool true]) ∧ RefOut w B r a ka (takeB xs k) cs w' := by
  obtain ⟨i0, hi, hz0, hz1, hz2⟩ := info_parts infoK
  have hk2 : 0 ≤ k ∧ k < (xs.length : Int) := by unfold inB at hk; simpa using hk
  have hg : getB xs k = xs.getD k.toNat pk0 := by unfold getB; rw [if_pos hk]
  have ht : takeB xs k = xs.take k.toNat ++ xs.drop (k.toNat + 1) := by unfold takeB; rw [if_pos hk, List.eraseIdx_eq_take_drop_succ]
  rw [hg, ht]
  have kt := fun (W : World) (h : RefAt W B r a c ka kc xs cs) => there_any h k
  rw [hk] at kt
  obtain ⟨K, hK⟩ : ∃ K, k.toNat = K := ⟨_, rfl⟩
  obtain rfl : k = (K : Int) := by omega
  simp only [Int.toNat_natCast] at hK
  obtain ⟨n, hn⟩ : ∃ n, xs.length = n := ⟨_, rfl⟩
  have hKn : K < n := by omega
  obtain ⟨hcl, hcm⟩ := h.capLe
  rw [hn] at hcl hl
  unfold maxLen at hcm
  have hb1 := belowNew (belowSame w) (.cells #[.int .i64 0, .int .i64 0, .string ⟨#[]⟩] RK)
  have h1 := h.old hb1
  have hY := Blk.new w RK #[.int .i64 0, .int .i64 0, .string ⟨#[]⟩]
  obtain ⟨W1, hW1⟩ : ∃ W, w.alloc (.cells #[.int .i64 0, .int .i64 0, .string ⟨#[]⟩] RK) = W := ⟨_, rfl⟩
  rw [hW1] at hb1 h1 hY
  obtain ⟨y4, hy4⟩ : ∃ y, w.heap.size = y := ⟨_, rfl⟩
  rw [hy4] at hY
  obtain ⟨b, hab, hbl, x0, x1, x2⟩ := h1.at_ (k := K) (by omega)
  subst hab
  rw [Int.toNat_natCast]
  obtain ⟨⟨pf, pt, pd⟩, hp⟩ : ∃ p, xs.getD K pk0 = p := ⟨_, rfl⟩
  rw [hp] at x0 x1 x2
  rw [hp]
  dsimp only at x0 x1 x2
  have c0 : W1.cell? ⟨r, 0, none⟩ = some (.slice (some ⟨b, 0, none⟩) n c) := by rw [← hn]; exact h1.blk.cell 0
  have HH := Lib.hid h
  have HN := Lib.hid hn
  have H1 := Lib.hid h1
  have HB1 := Lib.hid hb1
  have HY := Lib.hid hY
  have HW1 := Lib.hid hW1
  have HY4 := Lib.hid hy4
  have HKN := Lib.hid hKn
  have kt1 := Lib.hid kt
  have hkc : (K : Int) < (c : Int) := by omega
  have hkn : (K : Int) < (n : Int) := by omega
  clear h hn h1 hb1 hY hW1 hy4 hp hk hk2 hg ht hK kt
  go_enter Try.func22, Try.ntmps22
  go_upto_region 1 with fail
  rw [HW1.out, HY4.out]
  go_upto_region 4 with (go_at_call 28; refine (kt1.out _ H1.out).mono ?_; rintro e w2 ⟨rfl, rfl⟩)
  have hb2 := belowNew (belowSame W1) (.cells #[.int .i64 pf, .int .i64 pt, .string pd] RK)
  have hZ := Blk.new W1 RK #[.int .i64 pf, .int .i64 pt, .string pd]
  have h2 := (H1.out.old hb2).old (belowDrew (belowSame _))
  have hY2 := (HY.out.below hb2 HY.out.lt).drew
  have hb3 := belowDrew (belowThen HB1.out hb2)
  obtain ⟨W2, hW2⟩ : ∃ W, W1.alloc (.cells #[.int .i64 pf, .int .i64 pt, .string pd] RK) = W := ⟨_, rfl⟩
  rw [hW2] at hZ h2 hY2 hb3
  rw [hW2]
  obtain ⟨y6, hy6⟩ : ∃ y, W1.heap.size = y := ⟨_, rfl⟩
  have hlt1 := H1.out.blk.lt
  have hy6r : y6 ≠ r := by omega
  rw [hy6] at hZ
  rw [hy6]
  have c0 : W2.drew.cell? ⟨r, 0, none⟩ = some (.slice (some ⟨b, 0, none⟩) n c) := by rw [← HN.out]; exact h2.blk.cell 0
  have p0 : W2.cell? ⟨r, 0, none⟩ = some (.slice (some ⟨b, 0, none⟩) n c) := c0
  have HL := Lib.hid h2.lies
  rw [HN.out] at HL
  have L1 : Lies W2.drew 3 (some ⟨b, 0, none⟩) K ((xs.flatMap val).take (K * 3)) := HL.out.take (by omega)
  have one1 : ∀ u ∈ (xs.flatMap val).take (K * 3), u.oneCell' = true := fun u hu => one_val xs u (List.mem_of_mem_take hu)
  have one2 : ∀ u ∈ (xs.flatMap val).drop ((K + 1) * 3), u.oneCell' = true := fun u hu => one_val xs u (List.mem_of_mem_drop hu)
  have L2 := Lib.hid (fun (w4 : World) (hb4 : Below W2.drew.heap.size W2.drew w4) => (HL.out.old (by decide) hb4).cutN (c := c) (show K + 1 ≤ n by omega) (by omega))
  have n2 : K + (n - (K + 1)) = n - 1 := by omega
  have hlr := h2.blk.lt
  have HR0 := Lib.hid (fun (w4 : World) (hb4 : Below W2.drew.heap.size W2.drew w4) => show w4.cell? ⟨r, 0, none⟩ = some (.slice (some ⟨b, 0, none⟩) n c) ∧ w4.frozen? ⟨r, 0, none⟩ = false from ⟨by rw [← HN.out]; exact (h2.blk.below hb4 hlr).cell 0, (h2.blk.below hb4 hlr).frozen 0⟩)
  have HF := Lib.hid (show ∀ (w5 : World) (a5 : Option Addr) (c5 : Nat), w5.ownsRow W2.drew.heap.size RK 3 (.slice a5 (K + (n - (K + 1))) c5) (K + (n - (K + 1))) ((xs.flatMap val).take (K * 3) ++ (xs.flatMap val).drop ((K + 1) * 3)) → Below W2.drew.heap.size W2.drew w5 →
      RefOutY w B r (some ⟨b, 0, none⟩) ka (xs.take K ++ xs.drop (K + 1)) cs y4 RK #[.int .i64 0, .int .i64 0, .string ⟨#[]⟩] (w5.setCell ⟨r, 0, none⟩ (.slice a5 (n - 1) c5)) ∧ Blk (w5.setCell ⟨r, 0, none⟩ (.slice a5 (n - 1) c5)) y6 RK #[.int .i64 pf, .int .i64 pt, .string pd] from fun w5 a5 c5 ho hb => by
    rw [flat_take val_len, flat_drop val_len, ← List.flatMap_append, n2] at ho
    have hro := h2.putL hb ho (by have := HN.out; simp; omega)
    refine ⟨hro.beside HH.out hb3 (by have := HY4.out; omega) hY2, ?_⟩
    obtain ⟨_, _, _, _, _, k2, _⟩ := hro
    exact hZ.drew.keeps k2 hy6r)
  have e1 : IntKind.i64.wrap ((K : Int) + 1) = (K : Int) + 1 := IntWalk.i64_in _ (by omega)
  have t2 : (0 : Int) ≤ (K : Int) + 1 := by omega
  have t3 : ((K : Int) + 1).toNat = K + 1 := by omega
  have t4 : K ≤ c := by omega
  have t5 : K + 1 ≤ n := by omega
  have t6 : K + 1 ≤ c := by omega
  have t7 : (K : Int) + 1 ≤ (n : Int) := by omega
  have t8 : (K : Int) ≤ (K : Int) + 1 := by omega
  have HZ := Lib.hid hZ
  have hwy : w.heap.size ≤ y4 := by have := HY4.out; omega
  have HWY := Lib.hid hwy
  clear hb2 hZ h2 hY2 hb3 hW2 hy6 hlt1 hlr hwy x0 x1 x2 hbl kt1
  by_cases hcK : c = K + 1
  · skip
    go_region_law (first
      | (refine step_append_lie _ rfl (.const (.slice none 0 0)) (.tmp 25) 40 rfl W2.drew.heap.size RK i0 _ 3 32 Try.underlying40 hi hz0 hz1 hz2 rfl (by decide) none 0 0 [] rfl (World.ownsRow_nil _ _ _ _) (some ⟨b, 0, none⟩) K c ((xs.flatMap val).take (K * 3)) (by go_simp) L1 one1 (by unfold maxLen; omega) (by omega) (Nat.le_refl _) ?_; intro a4 c4 w4 ho4 hg4 hat4
         simp only [Nat.zero_add, List.nil_append] at ho4 ⊢
         have B4 := row_first hg4
         have L4 := L2.out w4 B4
         rw [if_pos hcK] at L4
         have r4 := (HR0.out w4 B4).1
         clear hg4 hat4)
      | (refine step_append_lie _ rfl (.tmp 26) (.tmp 33) 40 rfl W2.drew.heap.size RK i0 _ 3 32 Try.underlying40 hi hz0 hz1 hz2 rfl (by decide) a4 K c4 ((xs.flatMap val).take (K * 3)) (by go_simp) ho4 (some ⟨b, 0, none⟩) (n - (K + 1)) (c - (K + 1)) ((xs.flatMap val).drop ((K + 1) * 3)) (by go_simp) L4 one2 (by unfold maxLen; omega) (by omega) B4.size ?_; intro a5 c5 w5 ho5 hg5 hat5
         have B5 := row_more2 ho4 B4 hg5
         have H5 := Lib.hid (HF.out w5 a5 c5 ho5 B5)
         have r5 := (HR0.out w5 B5).1
         have f5 := (HR0.out w5 B5).2
         simp only [n2]
         clear ho4 L4 B4 ho5 hg5 hat5 B5 r4))
    all_goals
      obtain ⟨Wf, hWf⟩ : ∃ W, w5.setCell ⟨r, 0, none⟩ (.slice a5 (n - 1) c5) = W := ⟨_, rfl⟩
      have h5 := H5.out
      rw [hWf] at h5 ⊢
      have d0 : Wf.cell? ⟨y6, 0, none⟩ = some (.int .i64 pf) := h5.2.cell 0
      have d1 : Wf.cell? ⟨y6, 1, none⟩ = some (.int .i64 pt) := h5.2.cell 1
      have d2 : Wf.cell? ⟨y6, 2, none⟩ = some (.string pd) := h5.2.cell 2
      obtain ⟨_, _, _, _, _, _, _, _, hyb⟩ := h5.1
      have e0 : Wf.cell? ⟨y4, 0, none⟩ = some (.int .i64 0) := hyb.cell 0
      have e1' : Wf.cell? ⟨y4, 1, none⟩ = some (.int .i64 0) := hyb.cell 1
      have e2 : Wf.cell? ⟨y4, 2, none⟩ = some (.string ⟨#[]⟩) := hyb.cell 2
      have g0 := hyb.frozen 0
      have g1 := hyb.frozen 1
      have g2 := hyb.frozen 2
      have hE := ((h5.1.set HWY.out 0 (.int .i64 pf)).set HWY.out 1 (.int .i64 pt)).set HWY.out 2 (.string pd)
      obtain ⟨_, _, _, _, _, _, _, _, hyc⟩ := hE
      have v0 : (((Wf.setCell ⟨y4, 0, none⟩ (.int .i64 pf)).setCell ⟨y4, 1, none⟩ (.int .i64 pt)).setCell ⟨y4, 2, none⟩ (.string pd)).cell? ⟨y4, 0, none⟩ = some (.int .i64 pf) := hyc.cell 0
      have v1 : (((Wf.setCell ⟨y4, 0, none⟩ (.int .i64 pf)).setCell ⟨y4, 1, none⟩ (.int .i64 pt)).setCell ⟨y4, 2, none⟩ (.string pd)).cell? ⟨y4, 1, none⟩ = some (.int .i64 pt) := hyc.cell 1
      have v2 : (((Wf.setCell ⟨y4, 0, none⟩ (.int .i64 pf)).setCell ⟨y4, 1, none⟩ (.int .i64 pt)).setCell ⟨y4, 2, none⟩ (.string pd)).cell? ⟨y4, 2, none⟩ = some (.string pd) := hyc.cell 2
      have HE := Lib.hid (((h5.1.set HWY.out 0 (.int .i64 pf)).set HWY.out 1 (.int .i64 pt)).set HWY.out 2 (.string pd)).out
      clear h5 hWf hyb hyc
      go_wp2_with fail
      exact bodyPost_ret (v := .tuple #[.agg #[.int .i64 pf, .int .i64 pt, .string pd], .bool true]) (by simp [results, Try.results22, go_sem, v0, v1, v2]) rfl ⟨rfl, HE.out⟩
  · skip
    go_region_law (first
      | (refine step_append_lie _ rfl (.const (.slice none 0 0)) (.tmp 25) 40 rfl W2.drew.heap.size RK i0 _ 3 32 Try.underlying40 hi hz0 hz1 hz2 rfl (by decide) none 0 0 [] rfl (World.ownsRow_nil _ _ _ _) (some ⟨b, 0, none⟩) K c ((xs.flatMap val).take (K * 3)) (by go_simp) L1 one1 (by unfold maxLen; omega) (by omega) (Nat.le_refl _) ?_; intro a4 c4 w4 ho4 hg4 hat4
         simp only [Nat.zero_add, List.nil_append] at ho4 ⊢
         have B4 := row_first hg4
         have L4 := L2.out w4 B4
         rw [if_neg hcK] at L4
         have r4 := (HR0.out w4 B4).1
         clear hg4 hat4)
      | (refine step_append_lie _ rfl (.tmp 26) (.tmp 33) 40 rfl W2.drew.heap.size RK i0 _ 3 32 Try.underlying40 hi hz0 hz1 hz2 rfl (by decide) a4 K c4 ((xs.flatMap val).take (K * 3)) (by go_simp) ho4 (some ⟨b, (K + 1) * 3, none⟩) (n - (K + 1)) (c - (K + 1)) ((xs.flatMap val).drop ((K + 1) * 3)) (by go_simp) L4 one2 (by unfold maxLen; omega) (by omega) B4.size ?_; intro a5 c5 w5 ho5 hg5 hat5
         have B5 := row_more2 ho4 B4 hg5
         have H5 := Lib.hid (HF.out w5 a5 c5 ho5 B5)
         have r5 := (HR0.out w5 B5).1
         have f5 := (HR0.out w5 B5).2
         simp only [n2]
         clear ho4 L4 B4 ho5 hg5 hat5 B5 r4))
    all_goals
      obtain ⟨Wf, hWf⟩ : ∃ W, w5.setCell ⟨r, 0, none⟩ (.slice a5 (n - 1) c5) = W := ⟨_, rfl⟩
      have h5 := H5.out
      rw [hWf] at h5 ⊢
      have d0 : Wf.cell? ⟨y6, 0, none⟩ = some (.int .i64 pf) := h5.2.cell 0
      have d1 : Wf.cell? ⟨y6, 1, none⟩ = some (.int .i64 pt) := h5.2.cell 1
      have d2 : Wf.cell? ⟨y6, 2, none⟩ = some (.string pd) := h5.2.cell 2
      obtain ⟨_, _, _, _, _, _, _, _, hyb⟩ := h5.1
      have e0 : Wf.cell? ⟨y4, 0, none⟩ = some (.int .i64 0) := hyb.cell 0
      have e1' : Wf.cell? ⟨y4, 1, none⟩ = some (.int .i64 0) := hyb.cell 1
      have e2 : Wf.cell? ⟨y4, 2, none⟩ = some (.string ⟨#[]⟩) := hyb.cell 2
      have g0 := hyb.frozen 0
      have g1 := hyb.frozen 1
      have g2 := hyb.frozen 2
      have hE := ((h5.1.set HWY.out 0 (.int .i64 pf)).set HWY.out 1 (.int .i64 pt)).set HWY.out 2 (.string pd)
      obtain ⟨_, _, _, _, _, _, _, _, hyc⟩ := hE
      have v0 : (((Wf.setCell ⟨y4, 0, none⟩ (.int .i64 pf)).setCell ⟨y4, 1, none⟩ (.int .i64 pt)).setCell ⟨y4, 2, none⟩ (.string pd)).cell? ⟨y4, 0, none⟩ = some (.int .i64 pf) := hyc.cell 0
      have v1 : (((Wf.setCell ⟨y4, 0, none⟩ (.int .i64 pf)).setCell ⟨y4, 1, none⟩ (.int .i64 pt)).setCell ⟨y4, 2, none⟩ (.string pd)).cell? ⟨y4, 1, none⟩ = some (.int .i64 pt) := hyc.cell 1
      have v2 : (((Wf.setCell ⟨y4, 0, none⟩ (.int .i64 pf)).setCell ⟨y4, 1, none⟩ (.int .i64 pt)).setCell ⟨y4, 2, none⟩ (.string pd)).cell? ⟨y4, 2, none⟩ = some (.string pd) := hyc.cell 2
      have HE := Lib.hid (((h5.1.set HWY.out 0 (.int .i64 pf)).set HWY.out 1 (.int .i64 pt)).set HWY.out 2 (.string pd)).out
      clear h5 hWf hyb hyc
      go_wp2_with fail
      exact bodyPost_ret (v := .tuple #[.agg #[.int .i64 pf, .int .i64 pt, .string pd], .bool true]) (by simp [results, Try.results22, go_sem, v0, v1, v2]) rfl ⟨rfl, HE.out⟩
theorem rtake_out (h : RefAt w B r a c ka kc xs cs) (k : Int) (hk : inB xs k = false) :
    Calls Try.prog 22 #[.pointer (some ⟨r, 0, none⟩), .int .i64 k] w fun e w' => e = .returned (.tuple #[agg (getB xs k), .bool false]) ∧ RefOut w B r a ka (takeB xs k) cs w' := by
  have hg : getB xs k = pk0 := by unfold getB; rw [if_neg (by rw [hk]; decide)]
  have ht : takeB xs k = xs := by unfold takeB; rw [if_neg (by rw [hk]; decide)]
  rw [hg, ht]
  have hb1 := belowNew (belowSame w) (.cells #[.int .i64 0, .int .i64 0, .string ⟨#[]⟩] RK)
  have h1 := h.old hb1
  have hY := Blk.new w RK #[.int .i64 0, .int .i64 0, .string ⟨#[]⟩]
  obtain ⟨W1, hW1⟩ : ∃ W, w.alloc (.cells #[.int .i64 0, .int .i64 0, .string ⟨#[]⟩] RK) = W := ⟨_, rfl⟩
  rw [hW1] at hb1 h1 hY
  obtain ⟨y4, hy4⟩ : ∃ y, w.heap.size = y := ⟨_, rfl⟩
  rw [hy4] at hY
  have kt := there_any h1 k
  rw [hk] at kt
  have e0 : W1.cell? ⟨y4, 0, none⟩ = some (.int .i64 0) := hY.cell 0
  have e1' : W1.cell? ⟨y4, 1, none⟩ = some (.int .i64 0) := hY.cell 1
  have e2 : W1.cell? ⟨y4, 2, none⟩ = some (.string ⟨#[]⟩) := hY.cell 2
  have g0 := hY.frozen 0
  have g1 := hY.frozen 1
  have g2 := hY.frozen 2
  have hwy : w.heap.size ≤ y4 := by omega
  have hE := ((((h1.out.beside h hb1 hwy hY).set hwy 0 (.int .i64 0)).set hwy 1 (.int .i64 0)).set hwy 2 (.string ⟨#[]⟩))
  have HE := Lib.hid hE.out
  obtain ⟨_, _, _, _, _, _, _, _, hyc⟩ := hE
  have v0 : (((W1.setCell ⟨y4, 0, none⟩ (.int .i64 0)).setCell ⟨y4, 1, none⟩ (.int .i64 0)).setCell ⟨y4, 2, none⟩ (.string ⟨#[]⟩)).cell? ⟨y4, 0, none⟩ = some (.int .i64 0) := hyc.cell 0
  have v1 : (((W1.setCell ⟨y4, 0, none⟩ (.int .i64 0)).setCell ⟨y4, 1, none⟩ (.int .i64 0)).setCell ⟨y4, 2, none⟩ (.string ⟨#[]⟩)).cell? ⟨y4, 1, none⟩ = some (.int .i64 0) := hyc.cell 1
  have v2 : (((W1.setCell ⟨y4, 0, none⟩ (.int .i64 0)).setCell ⟨y4, 1, none⟩ (.int .i64 0)).setCell ⟨y4, 2, none⟩ (.string ⟨#[]⟩)).cell? ⟨y4, 2, none⟩ = some (.string ⟨#[]⟩) := hyc.cell 2
  have HW1 := Lib.hid hW1
  have HY4 := Lib.hid hy4
  clear h h1 hb1 hY hW1 hy4 hwy hyc hg ht hk
  go_enter Try.func22, Try.ntmps22
  go_upto_region 1 with fail
  rw [HW1.out, HY4.out]
  go_wp2_with (go_at_call 28; refine kt.mono ?_; rintro e w2 ⟨rfl, rfl⟩)
  exact bodyPost_ret (v := .tuple #[agg pk0, .bool false]) (by simp [results, Try.results22, go_sem, v0, v1, v2]; exact ⟨rfl, rfl, rfl⟩) rfl ⟨rfl, HE.out⟩
theorem rtake_any (h : RefAt w B r a c ka kc xs cs) (k : Int) (hl : xs.length ≤ 2000) :
    Calls Try.prog 22 #[.pointer (some ⟨r, 0, none⟩), .int .i64 k] w fun e w' => e = .returned (.tuple #[agg (getB xs k), .bool (inB xs k)]) ∧ RefOut w B r a ka (takeB xs k) cs w' := by
  cases hk : inB xs k
  · exact rtake_out h k hk
  · exact rtake_in h k hk hl
end
end Go.Proofs.Ytanhdcffbdhkcaa.NP
