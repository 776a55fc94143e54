/- NetPlays' reference: Swap. No condition. -/
import Derived.Test.YtanhdcffbdhkcaaNp3
import Derived.BigRegion
namespace Go.Proofs.Ytanhdcffbdhkcaa.NP
set_option maxRecDepth 100000
set_option maxRecDepth 100000
open Go.RowKit Go.Proofs.Ytanhdcffbdhkcaa.RP Go.Proofs.Ytanhdcffbdhkcaa.CM Go.Proofs.Ytanhdcffbdhkcaa.NT
set_option linter.unusedVariables false
set_option linter.unusedSimpArgs false

section
variable {w w' W w1 : World} {B r c kc : Nat} {a ka : Option Addr} {xs ys : List Pk} {cs : List (Int × Int)}
theorem RefAt.set3 {b : Nat} (h : RefAt W B r (some ⟨b, 0, none⟩) c ka kc xs cs) {k : Nat} (hk : k < xs.length) (x : Pk) :
    RefAt (((W.setCell ⟨b, k * 3, none⟩ (.int .i64 x.f)).setCell ⟨b, k * 3 + 1, none⟩ (.int .i64 x.t)).setCell ⟨b, k * 3 + 2, none⟩ (.string x.d)) B r (some ⟨b, 0, none⟩) c ka kc (xs.set k x) cs ∧ Keeps (fun k => k = b) W (((W.setCell ⟨b, k * 3, none⟩ (.int .i64 x.f)).setCell ⟨b, k * 3 + 1, none⟩ (.int .i64 x.t)).setCell ⟨b, k * 3 + 2, none⟩ (.string x.d)) := by
  have hne := own_ne h.row h.blk (show (RK : Nat) ≠ RT by decide)
  have hbr : r ≠ b := fun e => hne (by simp [Value.ownBlock, e])
  have hbc : ∀ i, (Value.slice ka cs.length kc).ownBlock = some i → i ≠ b := by
    intro i hi e
    rw [e] at hi
    clear e
    rcases h.row.2 with ⟨h0, _⟩ | ⟨g', cap, cur, h0, _, hh, _⟩
    · injection h0 with h1 _ _; cases h1
    · injection h0 with h1 _ _
      injection h1 with h1
      injection h1 with h1 _
      subst h1
      have hb2 : Blk W b RK cur := hh
      exact own_ne h.cut hb2 (show (63 : Nat) ≠ RK by decide) hi
  have hK : Keeps (fun k => k = b) W (((W.setCell ⟨b, k * 3, none⟩ (.int .i64 x.f)).setCell ⟨b, k * 3 + 1, none⟩ (.int .i64 x.t)).setCell ⟨b, k * 3 + 2, none⟩ (.string x.d)) := ((Keeps.setCell (S := fun k => k = b) (p := ⟨b, k * 3, none⟩) (Keeps.refl _ _) (fun _ => rfl) _).setCell (p := ⟨b, k * 3 + 1, none⟩) (fun _ => rfl) _).setCell (p := ⟨b, k * 3 + 2, none⟩) (fun _ => rfl) _
  refine ⟨⟨?_, ?_, own_keeps h.cut hK hbc, h.ge⟩, hK⟩
  · have := h.blk.keeps hK hbr
    simpa using this
  · have h0 := (h.row.stored (k * 3) (.int .i64 x.f)).1
    have h1 := (h0.stored (k * 3 + 1) (.int .i64 x.t)).1
    have h2 := (h1.stored (k * 3 + 2) (.string x.d)).1
    rw [flat_set xs k x hk, List.length_set]
    exact h2
theorem RefAt.free_ {b : Nat} (h : RefAt W B r (some ⟨b, 0, none⟩) c ka kc xs cs) (i : Nat) : W.frozen? ⟨b, i, none⟩ = false := by
  rcases h.row.2 with ⟨h0, _⟩ | ⟨g', cap, cur, h0, _, hh, _⟩
  · injection h0 with h1 _ _; cases h1
  · injection h0 with h1 _ _
    injection h1 with h1
    injection h1 with h1 _
    subst h1
    exact Blk.frozen (t := RK) (cs := cur) hh i
set_option maxHeartbeats 8000000 in
theorem rswap_in (h : RefAt w B r a c ka kc xs cs) (k j : Int) (hk : inB xs k = true) (hj : inB xs j = true) (hl : xs.length ≤ 2000) :
    Calls Try.prog 25 #[.pointer (some ⟨r, 0, none⟩), .int .i64 k, .int .i64 j] w fun e w' => e = .returned (.bool true) ∧ RefOut w B r a ka ((xs.set k.toNat (getB xs j)).set j.toNat (getB xs k)) cs w' := by
  obtain ⟨i0, hi, hz0, hz1, hz2⟩ := info_parts infoK
  have hk2 : 0 ≤ k ∧ k < (xs.length : Int) := by unfold inB at hk; simpa using hk
  have hj2 : 0 ≤ j ∧ j < (xs.length : Int) := by unfold inB at hj; simpa using hj
  have hgk : getB xs k = xs.getD k.toNat pk0 := by unfold getB; rw [if_pos hk]
  have hgj : getB xs j = xs.getD j.toNat pk0 := by unfold getB; rw [if_pos hj]
  rw [hgk, hgj]
  have kt := there_any h k
  have kt2 := there_any h j
  rw [hk] at kt
  rw [hj] at kt2
  obtain ⟨K, hK⟩ : ∃ K, k.toNat = K := ⟨_, rfl⟩
  obtain rfl : k = (K : Int) := by omega
  obtain ⟨J, hJ⟩ : ∃ J, j.toNat = J := ⟨_, rfl⟩
  obtain rfl : j = (J : Int) := by omega
  rw [Int.toNat_natCast, Int.toNat_natCast]
  obtain ⟨⟨kf, kt_, kd⟩, hpk⟩ : ∃ p, xs.getD K pk0 = p := ⟨_, rfl⟩
  obtain ⟨⟨jf, jt, jd⟩, hpj⟩ : ∃ p, xs.getD J pk0 = p := ⟨_, rfl⟩
  rw [hpk, hpj]
  have HPK := Lib.hid hpk
  have HPJ := Lib.hid hpj
  clear hpk hpj
  obtain ⟨n, hn⟩ : ∃ n, xs.length = n := ⟨_, rfl⟩
  obtain ⟨hcl, hcm⟩ := h.capLe
  rw [hn] at hcl hl
  unfold maxLen at hcm
  have p0 : w.cell? ⟨r, 0, none⟩ = some (.slice a n c) := by rw [← hn]; exact h.blk.cell 0
  have L1 : Lies w 3 a n (xs.flatMap val) := by have := h.lies; rwa [hn] at this
  have ones : ∀ u ∈ xs.flatMap val, u.oneCell' = true := one_val xs
  have hlr := h.blk.lt
  have HR0 := Lib.hid (fun (w4 : World) (hb4 : Below w.heap.size w w4) => show w4.cell? ⟨r, 0, none⟩ = some (.slice a n c) ∧ w4.frozen? ⟨r, 0, none⟩ = false from ⟨by rw [← hn]; exact (h.blk.below hb4 hlr).cell 0, (h.blk.below hb4 hlr).frozen 0⟩)
  have HF := Lib.hid (show ∀ (w5 : World) (a5 : Option Addr) (c5 : Nat), w5.ownsRow w.heap.size RK 3 (.slice a5 n c5) n (xs.flatMap val) → Below w.heap.size w w5 → RefAt (w5.setCell ⟨r, 0, none⟩ (.slice a5 n c5)) B r a5 c5 ka kc xs cs ∧ Keeps (fun k => k = r) w (w5.setCell ⟨r, 0, none⟩ (.slice a5 n c5)) ∧ Grows w (refF r a ka) (refF r a5 ka) ∧ ∀ i, (Value.slice a5 0 0).ownBlock = some i → w.heap.size ≤ i from fun w5 a5 c5 ho hb => by
    have hn2 : n = xs.length := hn.symm
    subst hn2
    have hne : ∀ i, (Value.slice a5 0 0).ownBlock = some i → w.heap.size ≤ i := fun i hi => (ho.lt i (by rw [own_blk]; exact hi)).1
    have hpc : RefAt (w5.setCell ⟨r, 0, none⟩ (.slice a5 xs.length c5)) B r a5 c5 ka kc xs cs := by
      have hnc : ∀ i, (Value.slice ka 0 0).ownBlock = some i → i ≠ r := fun i hi e => by
        have h1 := own_ne h.cut h.blk (show (63 : Nat) ≠ RT by decide)
        rw [own_blk] at h1
        exact h1 (e ▸ hi)
      have hk1 : Keeps (fun k => k = r) w5 (w5.setCell ⟨r, 0, none⟩ (.slice a5 xs.length c5)) := Keeps.setCell (S := fun k => k = r) (p := ⟨r, _, none⟩) (Keeps.refl _ _) (fun _ => rfl) _
      exact ⟨(h.blk.below hb hlr).set_ 0 _, own_base (own_keeps ho hk1 (fun i hi e => by have h1 := hne i (by rw [own_blk] at hi; exact hi); have e' : i = r := e; omega)) (fun i hi => by have h1 := hne i (by rw [own_blk] at hi; exact hi); have := h.base; omega), own_keeps (own_keeps h.cut (Keeps.of_below hb (fun _ => False)) (fun _ _ h => h)) hk1 (fun i hi e => hnc i (by rw [own_blk] at hi; exact hi) e), h.ge⟩
    refine ⟨hpc, Keeps.setCell (S := fun k => k = r) (p := ⟨r, _, none⟩) (Keeps.of_below hb (fun k => k = r)) (fun _ => rfl) _, fun i hi => ?_, hne⟩
    rcases hi with hi | hi | hi
    · exact .inl (.inl hi)
    · exact .inr (hne i hi)
    · exact .inl (.inr (.inr hi)))
  have HH := Lib.hid h
  have HN := Lib.hid hn
  have HK := Lib.hid (show K < n ∧ J < n by omega)
  have hkn : (K : Int) < (n : Int) := by omega
  have hjn : (J : Int) < (n : Int) := by omega
  clear h hn hk hj hk2 hj2 hgk hgj hK hJ hlr
  go_enter Try.func25, Try.ntmps25
  go_upto_region 3 with (go_at_call 28; first | ((with_reducible refine kt.mono ?_); rintro e w2 ⟨rfl, rfl⟩) | ((with_reducible refine kt2.mono ?_); rintro e w2 ⟨rfl, rfl⟩))
  go_upto_region 4 with (at_builtin; refine wpList_append_lie _ rfl _ _ 40 rfl w.heap.size RK i0 _ 3 32 Try.underlying40 hi hz0 hz1 hz2 rfl (by decide) none 0 0 [] rfl (World.ownsRow_nil _ _ _ _) a n c (xs.flatMap val) rfl L1 ones (by unfold maxLen; omega) (by omega) (Nat.le_refl _) ?_; intro a5 c5 w5 ho hg hat; (simp only [Nat.zero_add, List.nil_append] at ho ⊢); have B5 := row_first hg; have H5 := Lib.hid (HF.out w5 a5 c5 ho B5); have r5 := (HR0.out w5 B5).1; have f5 := (HR0.out w5 B5).2; clear ho hg hat B5)
  obtain ⟨W6, hW6⟩ : ∃ W, w5.setCell ⟨r, 0, none⟩ (.slice a5 n c5) = W := ⟨_, rfl⟩
  have h5 := H5.out
  rw [hW6] at h5
  rw [hW6]
  obtain ⟨hA, hKe, hGr, hge⟩ := h5
  obtain ⟨b, hab, hbl, x0, x1, x2⟩ := hA.at_ (k := K) (by have := HN.out; have := HK.out; omega)
  obtain ⟨b', hab', hbl', y0, y1, y2⟩ := hA.at_ (k := J) (by have := HN.out; have := HK.out; omega)
  subst hab
  injection hab' with hab'
  injection hab' with hab'
  subst hab'
  rw [HPK.out] at x0 x1 x2
  rw [HPJ.out] at y0 y1 y2
  dsimp only at x0 x1 x2 y0 y1 y2
  have hD := hA
  have hcap5 := hA.capLe.1
  rw [HN.out] at hcap5
  have hk5 : (K : Int) < (c5 : Int) := by have := HK.out; omega
  have hj5 : (J : Int) < (c5 : Int) := by have := HK.out; omega
  have s0 : W6.cell? ⟨r, 0, none⟩ = some (.slice (some ⟨b, 0, none⟩) n c5) := by rw [← HN.out]; exact hA.blk.cell 0
  have t0 : W6.drew.cell? ⟨r, 0, none⟩ = some (.slice (some ⟨b, 0, none⟩) n c5) := s0
  have xd0 : W6.drew.cell? ⟨b, K * 3, none⟩ = some (.int .i64 kf) := x0
  have xd1 : W6.drew.cell? ⟨b, K * 3 + 1, none⟩ = some (.int .i64 kt_) := x1
  have xd2 : W6.drew.cell? ⟨b, K * 3 + 2, none⟩ = some (.string kd) := x2
  have yd0 : W6.drew.cell? ⟨b, J * 3, none⟩ = some (.int .i64 jf) := y0
  have yd1 : W6.drew.cell? ⟨b, J * 3 + 1, none⟩ = some (.int .i64 jt) := y1
  have yd2 : W6.drew.cell? ⟨b, J * 3 + 2, none⟩ = some (.string jd) := y2
  have fr : ∀ i, W6.frozen? ⟨b, i, none⟩ = false := hD.free_
  have fk0 := fr (K * 3)
  have fk1 := fr (K * 3 + 1)
  have fk2 := fr (K * 3 + 2)
  obtain ⟨g1, gk1⟩ := hD.set3 (k := K) (by have := HN.out; have := HK.out; omega) ⟨jf, jt, jd⟩
  dsimp only at g1 gk1
  obtain ⟨b2, hb2, _, z0, z1, z2⟩ := g1.at_ (k := J) (by have := HN.out; have := HK.out; simp; omega)
  injection hb2 with hb2
  injection hb2 with hb2
  subst hb2
  have gr : ∀ i, ((((W6.setCell ⟨b, K * 3, none⟩ (.int .i64 jf)).setCell ⟨b, K * 3 + 1, none⟩ (.int .i64 jt)).setCell ⟨b, K * 3 + 2, none⟩ (.string jd))).frozen? ⟨b, i, none⟩ = false := g1.free_
  have gj0 := gr (J * 3)
  have gj1 := gr (J * 3 + 1)
  have gj2 := gr (J * 3 + 2)
  generalize ((xs.set K (⟨jf, jt, jd⟩ : Pk)).getD J pk0).f = q0 at z0
  generalize ((xs.set K (⟨jf, jt, jd⟩ : Pk)).getD J pk0).t = q1 at z1
  generalize ((xs.set K (⟨jf, jt, jd⟩ : Pk)).getD J pk0).d = q2 at z2
  obtain ⟨g2, gk2⟩ := g1.set3 (k := J) (by have := HN.out; have := HK.out; simp; omega) ⟨kf, kt_, kd⟩
  dsimp only at g2 gk2
  have hbge : w.heap.size ≤ b := hge b rfl
  have HE := Lib.hid (show RefOut w B r a ka ((xs.set K ⟨jf, jt, jd⟩).set J ⟨kf, kt_, kd⟩) cs ((((((W6.setCell ⟨b, K * 3, none⟩ (.int .i64 jf)).setCell ⟨b, K * 3 + 1, none⟩ (.int .i64 jt)).setCell ⟨b, K * 3 + 2, none⟩ (.string jd)).setCell ⟨b, J * 3, none⟩ (.int .i64 kf)).setCell ⟨b, J * 3 + 1, none⟩ (.int .i64 kt_)).setCell ⟨b, J * 3 + 2, none⟩ (.string kd)) from ⟨_, _, _, _, g2, (hKe.trans (gk1.mono (S' := fun k => k = r ∨ k = b) (fun _ _ h => .inr h)) (fun i hi h => by rcases h with h | h; exact h; exact absurd hi (by have e : i = b := h; omega))).trans (gk2.mono (S' := fun k => k = r ∨ k = b) (fun _ _ h => .inr h)) (fun i hi h => by rcases h with h | h; exact h; exact absurd hi (by have e : i = b := h; omega)), hGr⟩)
  clear hA hKe hGr hge hD g1 gk1 g2 gk2 fr gr hW6 H5 r5 f5 hbge hcap5 hbl hbl'
  have dk0 : W6.drew.frozen? ⟨b, K * 3, none⟩ = false := fk0
  have dk1 : W6.drew.frozen? ⟨b, K * 3 + 1, none⟩ = false := fk1
  have dk2 : W6.drew.frozen? ⟨b, K * 3 + 2, none⟩ = false := fk2
  go_region
  all_goals
    go_wp2_with fail
    go_ret
    exact ⟨rfl, HE.out.then_ (belowDrew (belowSame _))⟩
theorem rswap_any (h : RefAt w B r a c ka kc xs cs) (k j : Int) (hl : xs.length ≤ 2000) :
    Calls Try.prog 25 #[.pointer (some ⟨r, 0, none⟩), .int .i64 k, .int .i64 j] w fun e w' => e = .returned (.bool (canS xs k j)) ∧ RefOut w B r a ka (swapB xs k j) cs w' := by
  have no : ∀ q, canS xs k j = q → q = false → swapB xs k j = xs := fun q h1 h2 => by unfold swapB; rw [if_neg (by rw [h1, h2]; decide)]
  have kt := there_any h k
  have kt2 := there_any h j
  cases hk : inB xs k
  · have h1 : canS xs k j = false := by unfold canS; rw [hk]; rfl
    rw [no _ h1 rfl, h1]
    rw [hk] at kt
    have HO := Lib.hid h.out
    clear h h1 hk no kt2
    go_enter Try.func25, Try.ntmps25
    go_wp2_with (go_at_call 28; (with_reducible refine kt.mono ?_); rintro e w2 ⟨rfl, rfl⟩)
    go_ret
    exact ⟨rfl, HO.out⟩
  · cases hj : inB xs j
    · have h1 : canS xs k j = false := by unfold canS; rw [hk, hj]; rfl
      rw [no _ h1 rfl, h1]
      rw [hk] at kt
      rw [hj] at kt2
      have HO := Lib.hid h.out
      clear h h1 hk hj no
      go_enter Try.func25, Try.ntmps25
      go_wp2_with (go_at_call 28; first | ((with_reducible refine kt.mono ?_); rintro e w2 ⟨rfl, rfl⟩) | ((with_reducible refine kt2.mono ?_); rintro e w2 ⟨rfl, rfl⟩))
      go_ret
      exact ⟨rfl, HO.out⟩
    · have h1 : canS xs k j = true := by unfold canS; rw [hk, hj]; rfl
      have h2 : swapB xs k j = (xs.set k.toNat (getB xs j)).set j.toNat (getB xs k) := by unfold swapB; rw [if_pos h1]
      rw [h1, h2]
      exact rswap_in h k j hk hj hl
end
end Go.Proofs.Ytanhdcffbdhkcaa.NP
