/- The net: Double, Swap. No condition. -/
import Derived.Test.YtanhdcffbdhkcaaNet2
namespace Go.Proofs.Ytanhdcffbdhkcaa.NT
set_option maxRecDepth 100000
open Go.RowKit Go.Proofs.Ytanhdcffbdhkcaa.RP Go.Proofs.Ytanhdcffbdhkcaa.CM
set_option linter.unusedVariables false

section
variable {w : World} {B g N : Nat} {lp mp : Option Nat} {a : Option Addr} {c : Nat} {xs : List Pk} {C : Int → Int → Bool}
abbrev boxP (p : Pk) : Obj := .cells #[.int .i64 p.f, .int .i64 p.t, .string p.d] 28
def canD (xs : List Pk) (k : Int) : Bool := inB xs k && decide (xs.length < 900)
def doubleB (xs : List Pk) (k : Int) : List Pk := if canD xs k = true then xs ++ [getB xs k] else xs
theorem double_net (h : NetAt w B g lp a c mp N xs C) (k : Int) :
    Calls Try.prog 10 #[.pointer (some ⟨g, 0, none⟩), .int .i64 k] w fun e w' => e = .returned (.bool (canD xs k)) ∧ RingedOut w B g lp a mp N (doubleB xs k) C w' := by
  have hl := peek_net h k
  clear h
  obtain ⟨q, hq⟩ : ∃ q, inB xs k = q := ⟨_, rfl⟩
  obtain ⟨p, hp⟩ : ∃ p, getB xs k = p := ⟨_, rfl⟩
  rw [hq, hp] at hl
  cases q
  · have e1 : canD xs k = false := by unfold canD; rw [hq]; rfl
    have e2 : doubleB xs k = xs := by unfold doubleB; rw [e1]; rfl
    rw [e1, e2]
    clear e1 e2 hq hp
    go_enter Try.func10, Try.ntmps10
    go_wp2_with (go_at_call 27; refine hl.mono ?_; rintro e w1 ⟨rfl, ho⟩; have HO := Lib.hid ho; clear ho hl)
    go_quiet (fail)
    go_wp2
    go_ret
    exact ⟨rfl, HO.out.then_ (belowDrewN (belowNew (belowSame _) _) _)⟩
  · by_cases hz : xs.length < 900
    · have e1 : canD xs k = true := by unfold canD; rw [hq]; simp [hz]
      have e2 : doubleB xs k = xs ++ [p] := by unfold doubleB; rw [e1, hp]; rfl
      rw [e1, e2]
      clear e1 e2 hq hp
      go_enter Try.func10, Try.ntmps10
      go_wp2_with (go_at_call 27; refine hl.mono ?_; rintro e w1 ⟨rfl, r, a1, c1, h1, k1, g1⟩)
      have b0 : Blk (w1.alloc (boxP p)) w1.heap.size TP #[.int .i64 p.f, .int .i64 p.t, .string p.d] := Blk.new _ _ _
      have d0 := b0.cell 0
      have d1 := b0.cell 1
      have d2 := b0.cell 2
      have hA := h1.alloc (boxP p)
      have hS := hA.drew.alloc (boxP p)
      have kl1 := list_some hA.drew
      have kl2 := list_some hS
      have kp := push_any (ring_of hS) (some ⟨(w1.alloc (boxP p)).heap.size, 0, none⟩) 1 1 (by decide) (Nat.le_refl _) [p] (by have := Lies.of_blk (Blk.new (w1.alloc (boxP p)).drew TP #[.int .i64 p.f, .int .i64 p.t, .string p.d]); exact ⟨rfl, fun _ => this.2 (by simp)⟩)
      rw [show min 1 (900 - xs.length) = 1 by omega] at kp
      have bx : ∀ ys w4, RingOutN val 3 TR TP ((w1.alloc (boxP p)).drew.alloc (boxP p)) B r 900 a1 ys w4 → Blk w4 w1.heap.size TP #[.int .i64 p.f, .int .i64 p.t, .string p.d] ∧ RingedOut ((w1.alloc (boxP p)).drew.alloc (boxP p)) B g (some r) a1 mp N ys C w4 := fun ys w4 ho => by
        have hr := hS.step ho
        obtain ⟨r', a', c', h', k', g'⟩ := hr
        exact ⟨(b0.drew.alloc _).keeps k' (fun hk => by have := h1.lt _ hk; omega), r', a', c', h', k', g'⟩
      have BX := Lib.hid bx
      have KG := Lib.hid (And.intro k1 g1)
      clear h1 k1 g1 hl hA hS b0 bx
      have hsz : (w1.alloc (boxP p)).heap.size = w1.heap.size + 1 := by simp
      rw [hsz] at kp
      clear hsz
      go_region_held3 (fun W => W.cell? ⟨w1.heap.size, 0, none⟩ = some (.int .i64 p.f) ∧ W.cell? ⟨w1.heap.size, 1, none⟩ = some (.int .i64 p.t) ∧ W.cell? ⟨w1.heap.size, 2, none⟩ = some (.string p.d)) (go_keep) (first
        | (go_at_call 29; refine kl1.mono ?_; rintro e w' ⟨rfl, rfl⟩)
        | (go_at_call 29; refine kl2.mono ?_; rintro e w' ⟨rfl, rfl⟩)
        | (go_at_call 32; refine kp.mono ?_; rintro e w4 ⟨rfl, ho4⟩; have b4 := (BX.out _ _ ho4).1; have s0 := b4.cell 0; have s1 := b4.cell 1; have s2 := b4.cell 2; have HO4 := Lib.hid (BX.out _ _ ho4).2; clear ho4 b4))
      all_goals
        go_wp2_with fail
        go_ret
        exact ⟨rfl, RingedOut.comp KG.out.1 KG.out.2 (RingedOut.from_ (belowNew (belowDrew (belowNew (belowSame _) _)) _) HO4.out)⟩
    · have e1 : canD xs k = false := by unfold canD; rw [hq]; simp; omega
      have e2 : doubleB xs k = xs := by unfold doubleB; rw [e1]; rfl
      rw [e1, e2]
      clear e1 e2 hq hp
      go_enter Try.func10, Try.ntmps10
      go_wp2_with (go_at_call 27; refine hl.mono ?_; rintro e w1 ⟨rfl, r, a1, c1, h1, k1, g1⟩)
      have b0 : Blk (w1.alloc (boxP p)) w1.heap.size TP #[.int .i64 p.f, .int .i64 p.t, .string p.d] := Blk.new _ _ _
      have d0 := b0.cell 0
      have d1 := b0.cell 1
      have d2 := b0.cell 2
      have hA := h1.alloc (boxP p)
      have hS := hA.drew.alloc (boxP p)
      have kl1 := list_some hA.drew
      have kl2 := list_some hS
      have kp := push_any (ring_of hS) (some ⟨(w1.alloc (boxP p)).heap.size, 0, none⟩) 1 1 (by decide) (Nat.le_refl _) [p] (by have := Lies.of_blk (Blk.new (w1.alloc (boxP p)).drew TP #[.int .i64 p.f, .int .i64 p.t, .string p.d]); exact ⟨rfl, fun _ => this.2 (by simp)⟩)
      rw [show min 1 (900 - xs.length) = 0 by omega, List.take_zero, List.append_nil] at kp
      have bx : ∀ ys w4, RingOutN val 3 TR TP ((w1.alloc (boxP p)).drew.alloc (boxP p)) B r 900 a1 ys w4 → Blk w4 w1.heap.size TP #[.int .i64 p.f, .int .i64 p.t, .string p.d] ∧ RingedOut ((w1.alloc (boxP p)).drew.alloc (boxP p)) B g (some r) a1 mp N ys C w4 := fun ys w4 ho => by
        have hr := hS.step ho
        obtain ⟨r', a', c', h', k', g'⟩ := hr
        exact ⟨(b0.drew.alloc _).keeps k' (fun hk => by have := h1.lt _ hk; omega), r', a', c', h', k', g'⟩
      have BX := Lib.hid bx
      have KG := Lib.hid (And.intro k1 g1)
      clear h1 k1 g1 hl hA hS b0 bx
      have hsz : (w1.alloc (boxP p)).heap.size = w1.heap.size + 1 := by simp
      rw [hsz] at kp
      clear hsz
      go_region_held3 (fun W => W.cell? ⟨w1.heap.size, 0, none⟩ = some (.int .i64 p.f) ∧ W.cell? ⟨w1.heap.size, 1, none⟩ = some (.int .i64 p.t) ∧ W.cell? ⟨w1.heap.size, 2, none⟩ = some (.string p.d)) (go_keep) (first
        | (go_at_call 29; refine kl1.mono ?_; rintro e w' ⟨rfl, rfl⟩)
        | (go_at_call 29; refine kl2.mono ?_; rintro e w' ⟨rfl, rfl⟩)
        | (go_at_call 32; refine kp.mono ?_; rintro e w4 ⟨rfl, ho4⟩; have b4 := (BX.out _ _ ho4).1; have s0 := b4.cell 0; have s1 := b4.cell 1; have s2 := b4.cell 2; have HO4 := Lib.hid (BX.out _ _ ho4).2; clear ho4 b4))
      all_goals
        go_wp2_with fail
        go_ret
        exact ⟨rfl, RingedOut.comp KG.out.1 KG.out.2 (RingedOut.from_ (belowNew (belowDrew (belowNew (belowSame _) _)) _) HO4.out)⟩

def canS (xs : List Pk) (k j : Int) : Bool := inB xs k && inB xs j
def swapB (xs : List Pk) (k j : Int) : List Pk := if canS xs k j = true then (xs.set k.toNat (getB xs j)).set j.toNat (getB xs k) else xs
theorem swap_net (h : NetAt w B g lp a c mp N xs C) (k j : Int) :
    Calls Try.prog 12 #[.pointer (some ⟨g, 0, none⟩), .int .i64 k, .int .i64 j] w fun e w' => e = .returned (.bool (canS xs k j)) ∧ RingedOut w B g lp a mp N (swapB xs k j) C w' := by
  have hl := peek_net h k
  clear h
  obtain ⟨q, hq⟩ : ∃ q, inB xs k = q := ⟨_, rfl⟩
  obtain ⟨p, hp⟩ : ∃ p, getB xs k = p := ⟨_, rfl⟩
  obtain ⟨q2, hq2⟩ : ∃ q, inB xs j = q := ⟨_, rfl⟩
  obtain ⟨p2, hp2⟩ : ∃ p, getB xs j = p := ⟨_, rfl⟩
  rw [hq, hp] at hl
  have HQ := Lib.hid (And.intro hq (And.intro hp (And.intro hq2 hp2)))
  clear hq hp hq2 hp2
  have short : q = false ∨ q2 = false → canS xs k j = false ∧ swapB xs k j = xs := by
    intro hh
    have e1 : canS xs k j = false := by unfold canS; rw [HQ.out.1, HQ.out.2.2.1]; rcases hh with rfl | rfl <;> simp
    exact ⟨e1, by unfold swapB; rw [e1]; rfl⟩
  by_cases hs : q = false ∨ q2 = false
  · rw [(short hs).1, (short hs).2]
    clear short
    cases q
    · cases q2
      all_goals
        go_enter Try.func12, Try.ntmps12
        go_wp2_with (go_at_call 27; (with_reducible refine hl.mono ?_); rintro e w1 ⟨rfl, r, a1, c1, h1, k1, g1⟩)
        have hl2 := peek_net (h1.alloc (boxP p)) j
        rw [HQ.out.2.2.1, HQ.out.2.2.2] at hl2
        have KG := Lib.hid (And.intro k1 g1)
        clear h1 k1 g1 hl
        go_wp2_with (go_at_call 27; (with_reducible refine hl2.mono ?_); rintro e w2 ⟨rfl, ho⟩; have HO := Lib.hid ho; clear ho hl2)
        go_ret
        exact ⟨rfl, RingedOut.comp KG.out.1 KG.out.2 (RingedOut.from_ (belowNew (belowSame _) _) (HO.out.then_ (belowNew (belowSame _) _)))⟩
    · obtain rfl : q2 = false := by cases q2 <;> simp_all
      go_enter Try.func12, Try.ntmps12
      go_wp2_with (go_at_call 27; (with_reducible refine hl.mono ?_); rintro e w1 ⟨rfl, r, a1, c1, h1, k1, g1⟩)
      have hl2 := peek_net (h1.alloc (boxP p)) j
      rw [HQ.out.2.2.1, HQ.out.2.2.2] at hl2
      have KG := Lib.hid (And.intro k1 g1)
      clear h1 k1 g1 hl
      go_wp2_with (go_at_call 27; (with_reducible refine hl2.mono ?_); rintro e w2 ⟨rfl, ho⟩; have HO := Lib.hid ho; clear ho hl2)
      go_ret
      exact ⟨rfl, RingedOut.comp KG.out.1 KG.out.2 (RingedOut.from_ (belowNew (belowSame _) _) (HO.out.then_ (belowNew (belowSame _) _)))⟩
  · obtain rfl : q = true := by cases q <;> simp_all
    obtain rfl : q2 = true := by cases q2 <;> simp_all
    have hk : 0 ≤ k ∧ k < (xs.length : Int) := by have := HQ.out.1; unfold inB at this; exact of_decide_eq_true this
    have hj : 0 ≤ j ∧ j < (xs.length : Int) := by have := HQ.out.2.2.1; unfold inB at this; exact of_decide_eq_true this
    obtain ⟨hk0, hk1⟩ := hk
    obtain ⟨hj0, hj1⟩ := hj
    have e1 : canS xs k j = true := by unfold canS; rw [HQ.out.1, HQ.out.2.2.1]; rfl
    have e2 : swapB xs k j = (xs.set k.toNat p2).set j.toNat p := by unfold swapB; rw [e1, HQ.out.2.1, HQ.out.2.2.2]; rfl
    rw [e1, e2]
    clear e1 e2 short hs
    go_enter Try.func12, Try.ntmps12
    go_wp2_with (go_at_call 27; (with_reducible refine hl.mono ?_); rintro e w1 ⟨rfl, r, a1, c1, h1, k1, g1⟩)
    have hl2 := peek_net (h1.alloc (boxP p)) j
    rw [HQ.out.2.2.1, HQ.out.2.2.2] at hl2
    have b1 : Blk (w1.alloc (boxP p)) w1.heap.size TP #[.int .i64 p.f, .int .i64 p.t, .string p.d] := Blk.new _ _ _
    have n1 : ¬ netF g (some r) a1 mp w1.heap.size := fun hk => by have := h1.lt _ hk; omega
    have KG := Lib.hid (And.intro k1 g1)
    have HB := Lib.hid (And.intro b1 n1)
    clear h1 k1 g1 hl b1 n1
    go_wp2_with (go_at_call 27; (with_reducible refine hl2.mono ?_); rintro e w2 ⟨rfl, r2, a2, c2, h2, k2, g2⟩)
    have b2 : Blk w2 w1.heap.size TP #[.int .i64 p.f, .int .i64 p.t, .string p.d] := HB.out.1.keeps k2 HB.out.2
    have n2 : ¬ netF g (some r2) a2 mp w1.heap.size := fun hk => (g2 _ hk).elim HB.out.2 (fun h => by have := HB.out.1.lt; omega)
    have b3 := b2.alloc (boxP p2)
    have b4 : Blk (w2.alloc (boxP p2)) w2.heap.size TP #[.int .i64 p2.f, .int .i64 p2.t, .string p2.d] := Blk.new _ _ _
    have n4 : ¬ netF g (some r2) a2 mp w2.heap.size := fun hk => by have := h2.lt _ hk; omega
    have hA := h2.alloc (boxP p2)
    have d0 := b3.cell 0
    have d1 := b3.cell 1
    have d2 := b3.cell 2
    have d3 := b4.cell 0
    have d4 := b4.cell 1
    have d5 := b4.cell 2
    have kl := list_some hA.drew
    have ks := set_in (ring_of hA.drew) k p2 hk0 hk1
    have nx : ∀ w3, RingAtN val 3 TR TP w3 B r2 900 a2 c2 (xs.set k.toNat p2) → Keeps (ringF r2 a2) (w2.alloc (boxP p2)).drew w3 → ∃ r3 a3 c3, NetAt w3 B g (some r3) a3 c3 mp N (xs.set k.toNat p2) C ∧ Keeps (netF g (some r2) a2 mp) w2 w3 ∧ Grows w2 (netF g (some r2) a2 mp) (netF g (some r3) a3 mp) ∧
        Blk w3 w1.heap.size TP #[.int .i64 p.f, .int .i64 p.t, .string p.d] ∧ Blk w3 w2.heap.size TP #[.int .i64 p2.f, .int .i64 p2.t, .string p2.d] := fun w3 hr hk => by
      obtain ⟨r3, a3, c3, h3, k3, g3⟩ := hA.drew.step ⟨a2, c2, hr, hk, Grows.refl _ _⟩
      exact ⟨r3, a3, c3, h3, (((Keeps.refl (netF g (some r2) a2 mp) w2).alloc _).drew).trans k3 (fun _ _ h => h), fun i hi => (g3 i hi).imp id (fun h => by have : (w2.alloc (boxP p2)).heap.size ≤ i := h; simp at this; omega), b3.drew.keeps k3 n2, b4.drew.keeps k3 n4⟩
    have NX := Lib.hid nx
    have n2' := n2
    have hsz12 : w1.heap.size < w2.heap.size := b2.lt
    have K2 := Lib.hid (And.intro k2 g2)
    have hlen : (xs.set k.toNat p2).length = xs.length := by simp
    have HL := Lib.hid hlen
    clear h2 k2 g2 hA b2 n2 b3 b4 n4 nx hl2 hlen
    go_region_held3 (fun W => W.cell? ⟨w1.heap.size, 0, none⟩ = some (.int .i64 p.f) ∧ W.cell? ⟨w1.heap.size, 1, none⟩ = some (.int .i64 p.t) ∧ W.cell? ⟨w1.heap.size, 2, none⟩ = some (.string p.d) ∧
        W.cell? ⟨w2.heap.size, 0, none⟩ = some (.int .i64 p2.f) ∧ W.cell? ⟨w2.heap.size, 1, none⟩ = some (.int .i64 p2.t) ∧ W.cell? ⟨w2.heap.size, 2, none⟩ = some (.string p2.d)) (go_keep) (first
      | (go_at_call 29; refine kl.mono ?_; rintro e w' ⟨rfl, rfl⟩)
      | (go_at_call 33; refine ks.mono ?_; rintro e w3 ⟨rfl, hr3, hk3⟩; have H3 := Lib.hid (NX.out w3 hr3 hk3); have q0 : Blk w3 w1.heap.size TP #[.int .i64 p.f, .int .i64 p.t, .string p.d] := by { obtain ⟨_, _, _, _, _, _, h, _⟩ := H3.out; exact h }; have q1 : Blk w3 w2.heap.size TP #[.int .i64 p2.f, .int .i64 p2.t, .string p2.d] := by { obtain ⟨_, _, _, _, _, _, _, h⟩ := H3.out; exact h }; have s0 := q0.cell 0; have s1 := q0.cell 1; have s2 := q0.cell 2; have s3 := q1.cell 0; have s4 := q1.cell 1; have s5 := q1.cell 2; clear hr3 hk3 q0 q1))
    obtain ⟨r3, a3, c3, h3, k3, g3, b5, _⟩ := H3.out
    have d6 := b5.cell 0
    have d7 := b5.cell 1
    have d8 := b5.cell 2
    have n5 : ¬ netF g (some r3) a3 mp w1.heap.size := fun hk => (g3 _ hk).elim n2' (fun h => by omega)
    have kl3 := list_some h3.drew
    have hj2 : j < ((xs.set k.toNat p2).length : Int) := by rw [HL.out]; exact hj1
    have ks3 := set_in (ring_of h3.drew) j p hj0 hj2
    have nx2 : ∀ w4, RingAtN val 3 TR TP w4 B r3 900 a3 c3 ((xs.set k.toNat p2).set j.toNat p) → Keeps (ringF r3 a3) w3.drew w4 → RingedOut w3.drew B g (some r3) a3 mp N ((xs.set k.toNat p2).set j.toNat p) C w4 ∧ Blk w4 w1.heap.size TP #[.int .i64 p.f, .int .i64 p.t, .string p.d] := fun w4 hr hk => by
      obtain ⟨r4, a4, c4, h4, k4, g4⟩ := h3.drew.step ⟨a3, c3, hr, hk, Grows.refl _ _⟩
      exact ⟨⟨r4, a4, c4, h4, k4, g4⟩, b5.drew.keeps k4 n5⟩
    have NX2 := Lib.hid nx2
    have K3 := Lib.hid (And.intro k3 g3)
    clear h3 k3 g3 b5 n5 nx2 NX hj2 d0 d1 d2 d3 d4 d5 s0 s1 s2 s3 s4 s5 H3 kl ks
    go_wp2_with fail
    go_region_held3 (fun W => W.cell? ⟨w1.heap.size, 0, none⟩ = some (.int .i64 p.f) ∧ W.cell? ⟨w1.heap.size, 1, none⟩ = some (.int .i64 p.t) ∧ W.cell? ⟨w1.heap.size, 2, none⟩ = some (.string p.d)) (go_keep) (first
      | (go_at_call 29; refine kl3.mono ?_; rintro e w' ⟨rfl, rfl⟩)
      | (go_at_call 33; refine ks3.mono ?_; rintro e w4 ⟨rfl, hr4, hk4⟩; have H4 := Lib.hid (NX2.out w4 hr4 hk4); have t0 := H4.out.2.cell 0; have t1 := H4.out.2.cell 1; have t2 := H4.out.2.cell 2; clear hr4 hk4))
    go_wp2_with fail
    go_ret
    exact ⟨rfl, RingedOut.comp KG.out.1 KG.out.2 (RingedOut.from_ (belowNew (belowSame _) _) (RingedOut.comp (K2.out.1.then_ K2.out.2 K3.out.1) (K2.out.2.trans K2.out.1.size K3.out.2) (RingedOut.from_ (belowDrew (belowSame _)) H4.out.1)))⟩
end
end Go.Proofs.Ytanhdcffbdhkcaa.NT
