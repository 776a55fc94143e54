/- NetPlays' reference: Double. No condition. -/
import Derived.Test.YtanhdcffbdhkcaaNp2
namespace Go.Proofs.Ytanhdcffbdhkcaa.NP
set_option maxRecDepth 100000
set_option maxRecDepth 100000
open Go.RowKit Go.Proofs.Ytanhdcffbdhkcaa.RP Go.Proofs.Ytanhdcffbdhkcaa.CM Go.Proofs.Ytanhdcffbdhkcaa.NT
set_option linter.unusedVariables false
set_option linter.unusedSimpArgs false

section
variable {w w' W w1 : World} {B r c kc : Nat} {a ka : Option Addr} {xs ys : List Pk} {cs : List (Int × Int)}
set_option maxHeartbeats 4000000 in
theorem rdouble_in (h : RefAt w B r a c ka kc xs cs) (k : Int) (hk : inB xs k = true) (hl : xs.length < 900) :
    Calls Try.prog 24 #[.pointer (some ⟨r, 0, none⟩), .int .i64 k] w fun e w' => e = .returned (.bool true) ∧ RefOut w B r a ka (xs ++ [getB xs k]) cs w' := by
  obtain ⟨i0, hi, hz0, hz1, hz2⟩ := info_parts infoK
  have hk2 : 0 ≤ k ∧ k < (xs.length : Int) := by unfold inB at hk; simpa using hk
  have hg : getB xs k = xs.getD k.toNat pk0 := by unfold getB; rw [if_pos hk]
  rw [hg]
  have kt := there_any h k
  rw [hk] at kt
  obtain ⟨K, hK⟩ : ∃ K, k.toNat = K := ⟨_, rfl⟩
  obtain rfl : k = (K : Int) := by omega
  obtain ⟨n, hn⟩ : ∃ n, xs.length = n := ⟨_, rfl⟩
  obtain ⟨hcl, hcm⟩ := h.capLe
  rw [hn] at hcl hl
  unfold maxLen at hcm
  obtain ⟨ca, hca⟩ : ∃ x, c = x := ⟨_, rfl⟩
  subst hca
  obtain ⟨b, hab, hbl, x0, x1, x2⟩ := h.at_ (k := K) (by omega)
  rw [Int.toNat_natCast]
  obtain ⟨⟨pf, pt, pd⟩, hp⟩ : ∃ p, xs.getD K pk0 = p := ⟨_, rfl⟩
  rw [hp] at x0 x1 x2
  rw [hp]
  dsimp only at x0 x1 x2
  have XS := Lib.hid (fun (w4 : World) (hb4 : Below w.drew.heap.size w.drew w4) => show w4.cell? ⟨b, K * 3, none⟩ = some (.int .i64 pf) ∧ w4.cell? ⟨b, K * 3 + 1, none⟩ = some (.int .i64 pt) ∧ w4.cell? ⟨b, K * 3 + 2, none⟩ = some (.string pd) from ⟨(hb4.cell hbl).trans x0, (hb4.cell hbl).trans x1, (hb4.cell hbl).trans x2⟩)
  have p0 : w.cell? ⟨r, 0, none⟩ = some (.slice a n c) := by rw [← hn]; exact h.blk.cell 0
  have HD := Lib.hid (h.old (belowDrew (belowSame _)))
  have HH := Lib.hid h
  have HN := Lib.hid hn
  have hkc : (K : Int) < (c : Int) := by omega
  have hkn : (K : Int) < (n : Int) := by omega
  have hn9 : (n : Int) < 900 := by omega
  have hn9' : ¬ (900 : Int) ≤ (n : Int) := by omega
  have y0 := (XS.out w.drew (belowSame _)).1
  have y1 := (XS.out w.drew (belowSame _)).2.1
  have y2 := (XS.out w.drew (belowSame _)).2.2
  subst hab
  clear h hn hp hk hk2 hg hK hbl
  go_enter Try.func24, Try.ntmps24
  go_wp2_with (go_at_call 28; refine kt.mono ?_; rintro e w2 ⟨rfl, rfl⟩)
  clear kt
  have hd := HD.out
  have hlr := hd.blk.lt
  have L1 : Lies w.drew 3 (some ⟨b, 0, none⟩) n (xs.flatMap val) := by have := hd.lies; rwa [HN.out] at this
  have L1b : Lies (w.drew.alloc (.cells #[.int .i64 pf, .int .i64 pt, .string pd] RK)) 3 (some ⟨b, 0, none⟩) n (xs.flatMap val) := L1.old (by decide) (belowNew (belowSame _) _)
  have hbb : w.drew.heap.size ≤ (w.drew.alloc (.cells #[.int .i64 pf, .int .i64 pt, .string pd] RK)).heap.size := (belowNew (belowSame w.drew) (.cells #[.int .i64 pf, .int .i64 pt, .string pd] RK)).size
  have ones : ∀ u ∈ xs.flatMap val, u.oneCell' = true := one_val xs
  have onep : ∀ u ∈ ([.int .i64 pf, .int .i64 pt, .string pd] : List Value), u.oneCell' = true := by intro u hu; simp at hu; rcases hu with rfl | rfl | rfl <;> rfl
  have HR0 := Lib.hid (fun (w4 : World) (hb4 : Below w.drew.heap.size w.drew w4) => show w4.cell? ⟨r, 0, none⟩ = some (.slice (some ⟨b, 0, none⟩) n c) ∧ w4.frozen? ⟨r, 0, none⟩ = false from ⟨by rw [← HN.out]; exact (hd.blk.below hb4 hlr).cell 0, (hd.blk.below hb4 hlr).frozen 0⟩)
  have c0 := (HR0.out w.drew (belowSame _)).1
  have q0 := (HR0.out (w.drew.alloc (.cells #[.int .i64 pf, .int .i64 pt, .string pd] RK)) (belowNew (belowSame _) _)).1
  have q1 : (w.alloc (.cells #[.int .i64 pf, .int .i64 pt, .string pd] RK)).cell? ⟨r, 0, none⟩ = some (.slice (some ⟨b, 0, none⟩) n c) := q0
  have HF := Lib.hid (show ∀ (w5 : World) (a5 : Option Addr) (c5 : Nat), w5.ownsRow w.drew.heap.size RK 3 (.slice a5 (n + 1) c5) (n + 1) (xs.flatMap val ++ [.int .i64 pf, .int .i64 pt, .string pd]) → Below w.drew.heap.size w.drew w5 →
      RefOut w.drew B r (some ⟨b, 0, none⟩) ka (xs ++ [⟨pf, pt, pd⟩]) cs (w5.setCell ⟨r, 0, none⟩ (.slice a5 (n + 1) c5)) from fun w5 a5 c5 ho hb => by
    have e : (xs ++ [(⟨pf, pt, pd⟩ : Pk)]).flatMap val = xs.flatMap val ++ [.int .i64 pf, .int .i64 pt, .string pd] := by rw [List.flatMap_append]; simp
    rw [← e] at ho
    exact hd.putL hb ho (by have := HN.out; simp; omega))
  clear hd hlr
  go_region_law (first
    | (refine step_append_lie _ rfl (.const (.slice none 0 0)) (.tmp 21) 40 rfl w.drew.heap.size RK i0 _ 3 32 Try.underlying40 hi hz0 hz1 hz2 rfl (by decide) none 0 0 [] rfl (World.ownsRow_nil _ _ _ _) (some ⟨b, 0, none⟩) n c (xs.flatMap val) (by go_simp) L1 ones (by unfold maxLen; omega) (by omega) (Nat.le_refl _) ?_; intro a4 c4 w4 ho4 hg4 hat4
       simp only [Nat.zero_add, List.nil_append] at ho4 ⊢
       have B4 := row_first hg4
       have B4a := belowNew B4 (.cells #[.int .i64 pf, .int .i64 pt, .string pd] RK)
       have r4 := (HR0.out w4 B4).1
       have r4a := (HR0.out _ B4a).1
       have z0 := (XS.out w4 B4).1; have z1 := (XS.out w4 B4).2.1; have z2 := (XS.out w4 B4).2.2
       have ho4a := own_keeps ho4 ((Keeps.refl (fun _ => False) w4).alloc (.cells #[.int .i64 pf, .int .i64 pt, .string pd] RK)) (fun _ _ h => h)
       have hl4a : Lies (w4.alloc (.cells #[.int .i64 pf, .int .i64 pt, .string pd] RK)) 3 (some ⟨w4.heap.size, 0, none⟩) 1 [.int .i64 pf, .int .i64 pt, .string pd] := (by have := Lies.of_blk (Blk.new w4 RK #[.int .i64 pf, .int .i64 pt, .string pd]); exact ⟨rfl, fun _ => this.2 (by simp)⟩)
       clear hg4 hat4)
    | (refine step_append_lie _ rfl (.const (.slice none 0 0)) (.tmp 21) 40 rfl w.drew.heap.size RK i0 _ 3 32 Try.underlying40 hi hz0 hz1 hz2 rfl (by decide) none 0 0 [] rfl (World.ownsRow_nil _ _ _ _) (some ⟨b, 0, none⟩) n c (xs.flatMap val) (by go_simp) L1b ones (by unfold maxLen; omega) (by omega) hbb ?_; intro a4 c4 w4 ho4 hg4 hat4
       simp only [Nat.zero_add, List.nil_append] at ho4 ⊢
       have B4b := belowThen (belowNew (belowSame w.drew) (.cells #[.int .i64 pf, .int .i64 pt, .string pd] RK)) (row_first hg4)
       have r4 := (HR0.out w4 B4b).1
       have hl4b : Lies w4 3 (some ⟨w.heap.size, 0, none⟩) 1 [.int .i64 pf, .int .i64 pt, .string pd] := (by have := Lies.of_blk ((Blk.new w.drew RK #[.int .i64 pf, .int .i64 pt, .string pd]).below (row_first hg4) (Blk.new w.drew RK #[.int .i64 pf, .int .i64 pt, .string pd]).lt); exact ⟨rfl, fun _ => this.2 (by simp)⟩)
       clear hg4 hat4)
    | (refine step_append_lie _ rfl (.tmp 22) (.tmp 30) 40 rfl w.drew.heap.size RK i0 _ 3 32 Try.underlying40 hi hz0 hz1 hz2 rfl (by decide) a4 n c4 (xs.flatMap val) (by go_simp) ho4a (some ⟨w4.heap.size, 0, none⟩) 1 1 [.int .i64 pf, .int .i64 pt, .string pd] (by go_simp) hl4a onep (by unfold maxLen; omega) (by omega) B4a.size ?_; intro a5 c5 w5 ho5 hg5 hat5
       have B5 := row_more2 ho4a B4a hg5
       have H5 := Lib.hid (HF.out w5 a5 c5 ho5 B5)
       have r5 := (HR0.out w5 B5).1
       have f5 := (HR0.out w5 B5).2
       clear ho4 ho4a hl4a B4 B4a ho5 hg5 hat5 B5 r4 r4a)
    | (refine step_append_lie _ rfl (.tmp 22) (.tmp 30) 40 rfl w.drew.heap.size RK i0 _ 3 32 Try.underlying40 hi hz0 hz1 hz2 rfl (by decide) a4 n c4 (xs.flatMap val) (by go_simp) ho4 (some ⟨w.heap.size, 0, none⟩) 1 1 [.int .i64 pf, .int .i64 pt, .string pd] (by go_simp) hl4b onep (by unfold maxLen; omega) (by omega) B4b.size ?_; intro a5 c5 w5 ho5 hg5 hat5
       have B5 := row_more2 ho4 B4b hg5
       have H5 := Lib.hid (HF.out w5 a5 c5 ho5 B5)
       have r5 := (HR0.out w5 B5).1
       have f5 := (HR0.out w5 B5).2
       clear ho4 hl4b B4b ho5 hg5 hat5 B5 r4))
  all_goals
    go_wp2_with fail
    go_ret
    exact ⟨rfl, RefOut.from (belowDrew (belowSame w)) H5.out⟩
theorem rdouble_any (h : RefAt w B r a c ka kc xs cs) (k : Int) (hl : xs.length ≤ 2000) :
    Calls Try.prog 24 #[.pointer (some ⟨r, 0, none⟩), .int .i64 k] w fun e w' => e = .returned (.bool (canD xs k)) ∧ RefOut w B r a ka (doubleB xs k) cs w' := by
  cases hk : inB xs k
  · have h1 : canD xs k = false := by unfold canD; rw [hk]; rfl
    have h2 : doubleB xs k = xs := by unfold doubleB; rw [if_neg (by rw [h1]; decide)]
    rw [h1, h2]
    have kt := there_any h k
    rw [hk] at kt
    have HO := Lib.hid h.out
    clear h h1 h2 hk
    go_enter Try.func24, Try.ntmps24
    go_wp2_with (go_at_call 28; refine kt.mono ?_; rintro e w2 ⟨rfl, rfl⟩)
    go_ret
    exact ⟨rfl, HO.out⟩
  · by_cases h9 : xs.length < 900
    · have h1 : canD xs k = true := by unfold canD; rw [hk]; simpa using h9
      have h2 : doubleB xs k = xs ++ [getB xs k] := by unfold doubleB; rw [if_pos h1]
      rw [h1, h2]
      exact rdouble_in h k hk h9
    · have h1 : canD xs k = false := by unfold canD; rw [hk]; simpa using h9
      have h2 : doubleB xs k = xs := by unfold doubleB; rw [if_neg (by rw [h1]; decide)]
      rw [h1, h2]
      have kt := there_any h k
      rw [hk] at kt
      have p0 : w.cell? ⟨r, 0, none⟩ = some (.slice a xs.length c) := h.blk.cell 0
      have hn9 : (900 : Int) ≤ (xs.length : Int) := by omega
      have HO := Lib.hid h.out
      clear h h1 h2 hk h9
      go_enter Try.func24, Try.ntmps24
      go_wp2_with (go_at_call 28; refine kt.mono ?_; rintro e w2 ⟨rfl, rfl⟩)
      go_ret
      exact ⟨rfl, HO.out⟩
end
end Go.Proofs.Ytanhdcffbdhkcaa.NP
