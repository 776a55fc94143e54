/- The disk: Barrier, Admit, Fence, Put. No condition. -/
import Derived.Test.YtacogpogplionaaDk7
namespace Go.Proofs.Ytacogpogplionaa.DK
set_option maxRecDepth 100000
open Go.RowKit Go.Proofs.Ytacogpogplionaa.MI
set_option linter.unusedVariables false
set_option linter.unusedSimpArgs false

theorem may_cases (D : Dk) (n : Int) : (mayK D n = 14 ∧ D.on = false) ∨ (mayK D n = 1 ∧ inNode n = false) ∨ (mayK D n = 0 ∧ D.on = true ∧ inNode n = true) := by
  unfold mayK
  cases D.on <;> cases inNode n <;> simp
theorem may_in {D : Dk} {n : Int} (h : mayK D n = 0) : inNode n = true := by
  rcases may_cases D n with ⟨h1, _⟩ | ⟨h1, _⟩ | ⟨_, _, h1⟩
  · rw [h1] at h; cases h
  · rw [h1] at h; cases h
  · exact h1
theorem node_nat {n : Int} (h : inNode n = true) : 0 ≤ n ∧ n < 17 ∧ n.toNat < 17 := by unfold inNode at h; simp at h; omega
section
variable {w w' : World} {B g N : Nat} {p : Pl} {D : Dk}
set_option maxHeartbeats 1000000 in
theorem barrier_any (h : DiskAt w B g p N D) (n e : Int) (hN : N ≤ 1000000000) :
    Calls Try.prog 43 #[.pointer (some ⟨g, 0, none⟩), .int .i64 n, .int .u64 e] w fun e' w' => e' = .returned (.int .i64 (barrierE D n e)) ∧ DiskOut w B g p N (barrierK D n e) w' := by
  have km := may_any h n
  by_cases hm : mayK D n = 0
  · have ka := admits_any h n e (may_in hm)
    rw [hm] at km
    by_cases ha : admK D n e = 0
    · rw [ha] at ka
      have kg := goes_any h hN
      cases hg : goesB D
      · have r1 : barrierE D n e = 0 := by unfold barrierE; rw [if_pos hm, if_pos ha, hg]; rfl
        have r2 : barrierK D n e = settleK (goesK D) n := by unfold barrierK; rw [if_pos ⟨hm, ha⟩, hg]; rfl
        rw [r1, r2]
        rw [hg] at kg
        clear r1 r2 hg ha hm h
        go_enter Try.func43, Try.ntmps43
        go_wp2_with (first
          | (go_at_call 38; refine km.mono ?_; rintro e w1 ⟨rfl, rfl⟩)
          | (go_at_call 56; refine ka.mono ?_; rintro e w1 ⟨rfl, rfl⟩)
          | (go_at_call 39; refine kg.mono ?_; rintro e w1 ⟨rfl, ho⟩; obtain ⟨p1, h1, k1, g1, s1⟩ := ho; have ks := settle_any h1 n hN; have KC := Lib.hid (And.intro k1 (And.intro g1 s1)); clear h1 k1 g1 s1 kg km ka)
          | (go_at_call 40; refine ks.mono ?_; rintro e w2 ⟨rfl, ho⟩; have HO := Lib.hid (DiskOut.comp KC.out.1 KC.out.2.1 KC.out.2.2 ho); clear ho ks))
        go_ret
        exact ⟨rfl, HO.out⟩
      · have r1 : barrierE D n e = 14 := by unfold barrierE; rw [if_pos hm, if_pos ha, hg]; rfl
        have r2 : barrierK D n e = goesK D := by unfold barrierK; rw [if_pos ⟨hm, ha⟩, hg]; rfl
        rw [r1, r2]
        rw [hg] at kg
        clear r1 r2 hg ha hm h
        go_enter Try.func43, Try.ntmps43
        go_wp2_with (first
          | (go_at_call 38; refine km.mono ?_; rintro e w1 ⟨rfl, rfl⟩)
          | (go_at_call 56; refine ka.mono ?_; rintro e w1 ⟨rfl, rfl⟩)
          | (go_at_call 39; refine kg.mono ?_; rintro e w1 ⟨rfl, ho⟩; have HO := Lib.hid ho; clear ho kg km ka))
        go_ret
        exact ⟨rfl, HO.out⟩
    · have ha' : admK D n e = 34 := by unfold admK at ha ⊢; split at ha <;> simp_all
      have r1 : barrierE D n e = 34 := by unfold barrierE; rw [if_pos hm, if_neg ha]
      have r2 : barrierK D n e = D := by unfold barrierK; rw [if_neg (fun x => ha x.2)]
      rw [r1, r2]
      rw [ha'] at ka
      have H := Lib.hid h.out
      clear r1 r2 ha ha' hm h
      go_enter Try.func43, Try.ntmps43
      go_wp2_with (first
        | (go_at_call 38; refine km.mono ?_; rintro e w1 ⟨rfl, rfl⟩)
        | (go_at_call 56; refine ka.mono ?_; rintro e w1 ⟨rfl, rfl⟩))
      go_ret
      exact ⟨rfl, H.out⟩
  · have r1 : barrierE D n e = mayK D n := by unfold barrierE; rw [if_neg hm]
    have r2 : barrierK D n e = D := by unfold barrierK; rw [if_neg (fun x => hm x.1)]
    rw [r1, r2]
    obtain ⟨v, hv⟩ : ∃ v, mayK D n = v := ⟨_, rfl⟩
    rw [hv] at km hm ⊢
    have b1 : (v != 0) = true := by simpa using hm
    have H := Lib.hid h.out
    clear r1 r2 hm h hv
    go_enter Try.func43, Try.ntmps43
    go_wp2_with (go_at_call 38; refine km.mono ?_; rintro e w1 ⟨rfl, rfl⟩)
    go_ret
    exact ⟨rfl, H.out⟩

/-- A store into a node's place of the table of epochs, and of words. -/
theorem DiskAt.tabbed (h : DiskAt w B g p N D) {n : Int} (hn : inNode n = true) (v : Int) : w.frozen? ⟨g, 6 + n.toNat, none⟩ = false ∧ w.cell? ⟨g, 6 + n.toNat, none⟩ = some (uv (D.table n)) ∧ Blk (w.setCell ⟨g, 6 + n.toNat, none⟩ (uv v)) g TD (dcells { D with table := updF D.table n v } p.nb p.lb (.slice p.wa D.waits.length p.wc) (.slice p.sa p.sn p.sc)) :=
  ⟨h.blk.frozen _, (h.blk.cell _).trans (cell_tab _ _ _ _ _ hn), by rw [← set_tab _ _ _ _ _ hn]; exact h.blk.set_ _ _⟩
theorem DiskAt.worded (h : DiskAt w B g p N D) {n : Int} (hn : inNode n = true) (v : Int) : w.frozen? ⟨g, 23 + n.toNat, none⟩ = false ∧ w.cell? ⟨g, 23 + n.toNat, none⟩ = some (uv (D.words n)) ∧ Blk (w.setCell ⟨g, 23 + n.toNat, none⟩ (uv v)) g TD (dcells { D with words := updF D.words n v } p.nb p.lb (.slice p.wa D.waits.length p.wc) (.slice p.sa p.sn p.sc)) :=
  ⟨h.blk.frozen _, (h.blk.cell _).trans (cell_word _ _ _ _ _ hn), by rw [← set_word _ _ _ _ _ hn]; exact h.blk.set_ _ _⟩
theorem sane_like {D D' : Dk} (h : Sane D) (e1 : D'.room = D.room) (e2 : D'.now = D.now) (e3 : D'.lasts = D.lasts) (e4 : D'.waits = D.waits) (e5 : D'.left = D.left) : Sane D' :=
  ⟨by rw [e1]; exact h.room, by rw [e2]; exact h.now, by rw [e3]; exact h.lasts, by rw [e4]; exact h.waits, by rw [e5]; exact h.left⟩
theorem DiskAt.admitted (h : DiskAt w B g p N D) {n : Int} (hn : inNode n = true) (e : Int) : (∀ v, (w.setCell ⟨g, 6 + n.toNat, none⟩ v).frozen? ⟨g, 40, none⟩ = false) ∧ w.cell? ⟨g, 40, none⟩ = some (uv D.last) ∧
    DiskOut w B g p N { D with table := updF D.table n e, last := e } ((w.setCell ⟨g, 6 + n.toNat, none⟩ (uv e)).setCell ⟨g, 40, none⟩ (uv e)) := by
  obtain ⟨_, _, hb⟩ := h.tabbed hn e
  exact ⟨fun v => (h.blk.set_ _ v).frozen 40, h.blk.cell 40, h.turnOut (keep2 w g _ 40 _ _) (by exact hb.set_ 40 _) rfl rfl rfl rfl h.seq (sane_like h.sane rfl rfl rfl rfl rfl)⟩
set_option maxHeartbeats 1000000 in
theorem admit_any (h : DiskAt w B g p N D) (n e : Int) (hN : N ≤ 1000000000) :
    Calls Try.prog 27 #[.pointer (some ⟨g, 0, none⟩), .int .i64 n, .int .u64 e] w fun e' w' => e' = .returned (.int .i64 (admitE D n e)) ∧ DiskOut w B g p N (admitK D n e) w' := by
  have km := may_any h n
  have c40 : w.cell? ⟨g, 40, none⟩ = some (uv D.last) := h.blk.cell 40
  by_cases hm : mayK D n = 0
  · have hin := may_in hm
    obtain ⟨i1, i2, i3⟩ := node_nat hin
    rw [hm] at km
    by_cases ha : e ≤ D.last
    · have r1 : admitE D n e = 8 := by unfold admitE; rw [if_pos hm, if_pos ha]
      have r2 : admitK D n e = D := by unfold admitK; rw [if_neg (fun x => x.2 ha)]
      rw [r1, r2]
      obtain ⟨t, ht⟩ : ∃ t, D.last = t := ⟨_, rfl⟩
      rw [ht] at c40 ha
      have b1 : decide (e ≤ t) = true := by simpa using ha
      have H := Lib.hid h.out
      clear r1 r2 hm h ht
      go_enter Try.func27, Try.ntmps27
      go_wp2_with (go_at_call 38; refine km.mono ?_; rintro e w1 ⟨rfl, rfl⟩)
      go_ret
      exact ⟨rfl, H.out⟩
    · have kg := goes_any h hN
      cases hg : goesB D
      · have r1 : admitE D n e = 0 := by unfold admitE; rw [if_pos hm, if_neg ha, hg]; rfl
        have r2 : admitK D n e = { goesK D with table := updF (goesK D).table n e, last := e } := by unfold admitK; rw [if_pos ⟨hm, ha⟩, hg]; rfl
        rw [r1, r2]
        rw [hg] at kg
        obtain ⟨t, ht⟩ : ∃ t, D.last = t := ⟨_, rfl⟩
        rw [ht] at c40 ha
        have b1 : decide (e ≤ t) = false := by simpa using ha
        clear r1 r2 hg hm h ht ha
        go_enter Try.func27, Try.ntmps27
        go_wp2_with (first
          | (go_at_call 38; refine km.mono ?_; rintro e w1 ⟨rfl, rfl⟩)
          | (go_at_call 39; refine kg.mono ?_; rintro e w1 ⟨rfl, ho⟩; obtain ⟨p1, h1, k1, g1, s1⟩ := ho; obtain ⟨f1, d1, _⟩ := h1.tabbed hin e; obtain ⟨f2, d2, ho2⟩ := h1.admitted hin e; have HO := Lib.hid (DiskOut.comp k1 g1 s1 ho2); clear h1 k1 g1 s1 kg km ho2))
        go_ret
        exact ⟨rfl, HO.out⟩
      · have r1 : admitE D n e = 14 := by unfold admitE; rw [if_pos hm, if_neg ha, hg]; rfl
        have r2 : admitK D n e = goesK D := by unfold admitK; rw [if_pos ⟨hm, ha⟩, hg]; rfl
        rw [r1, r2]
        rw [hg] at kg
        obtain ⟨t, ht⟩ : ∃ t, D.last = t := ⟨_, rfl⟩
        rw [ht] at c40 ha
        have b1 : decide (e ≤ t) = false := by simpa using ha
        clear r1 r2 hg hm h ht ha
        go_enter Try.func27, Try.ntmps27
        go_wp2_with (first
          | (go_at_call 38; refine km.mono ?_; rintro e w1 ⟨rfl, rfl⟩)
          | (go_at_call 39; refine kg.mono ?_; rintro e w1 ⟨rfl, ho⟩; have HO := Lib.hid ho; clear ho kg km))
        go_ret
        exact ⟨rfl, HO.out⟩
  · have r1 : admitE D n e = mayK D n := by unfold admitE; rw [if_neg hm]
    have r2 : admitK D n e = D := by unfold admitK; rw [if_neg (fun x => hm x.1)]
    rw [r1, r2]
    obtain ⟨v, hv⟩ : ∃ v, mayK D n = v := ⟨_, rfl⟩
    rw [hv] at km hm ⊢
    have b1 : (v != 0) = true := by simpa using hm
    have H := Lib.hid h.out
    clear r1 r2 hm h hv
    go_enter Try.func27, Try.ntmps27
    go_wp2_with (go_at_call 38; refine km.mono ?_; rintro e w1 ⟨rfl, rfl⟩)
    go_ret
    exact ⟨rfl, H.out⟩
set_option maxHeartbeats 1000000 in
theorem put_any (h : DiskAt w B g p N D) (n e : Int) (hN : N ≤ 1000000000) :
    Calls Try.prog 25 #[.pointer (some ⟨g, 0, none⟩), .int .i64 n, .int .u64 e] w fun e' w' => e' = .returned (.int .i64 (fenceE D n)) ∧ DiskOut w B g p N (putK D n e) w' := by
  have km := may_any h n
  by_cases hm : mayK D n = 0
  · have hin := may_in hm
    obtain ⟨i1, i2, i3⟩ := node_nat hin
    rw [hm] at km
    have kg := goes_any h hN
    cases hg : goesB D
    · have r1 : fenceE D n = 0 := by unfold fenceE; rw [if_pos hm, hg]; rfl
      have r2 : putK D n e = { goesK D with words := updF (goesK D).words n e } := by unfold putK; rw [if_pos hm, hg]; rfl
      rw [r1, r2]
      rw [hg] at kg
      clear r1 r2 hg hm h
      go_enter Try.func25, Try.ntmps25
      go_wp2_with (first
        | (go_at_call 38; refine km.mono ?_; rintro e w1 ⟨rfl, rfl⟩)
        | (go_at_call 39; refine kg.mono ?_; rintro e w1 ⟨rfl, ho⟩; obtain ⟨p1, h1, k1, g1, s1⟩ := ho; obtain ⟨f1, d1, hb1⟩ := h1.worded hin e; have HO := Lib.hid (DiskOut.comp k1 g1 s1 (h1.turnOut (keep1 w1 g _ _) hb1 rfl rfl rfl rfl h1.seq (sane_like h1.sane rfl rfl rfl rfl rfl))); clear h1 k1 g1 s1 kg km hb1))
      go_ret
      exact ⟨rfl, HO.out⟩
    · have r1 : fenceE D n = 14 := by unfold fenceE; rw [if_pos hm, hg]; rfl
      have r2 : putK D n e = goesK D := by unfold putK; rw [if_pos hm, hg]; rfl
      rw [r1, r2]
      rw [hg] at kg
      clear r1 r2 hg hm h
      go_enter Try.func25, Try.ntmps25
      go_wp2_with (first
        | (go_at_call 38; refine km.mono ?_; rintro e w1 ⟨rfl, rfl⟩)
        | (go_at_call 39; refine kg.mono ?_; rintro e w1 ⟨rfl, ho⟩; have HO := Lib.hid ho; clear ho kg km))
      go_ret
      exact ⟨rfl, HO.out⟩
  · have r1 : fenceE D n = mayK D n := by unfold fenceE; rw [if_neg hm]
    have r2 : putK D n e = D := by unfold putK; rw [if_neg hm]
    rw [r1, r2]
    obtain ⟨v, hv⟩ : ∃ v, mayK D n = v := ⟨_, rfl⟩
    rw [hv] at km hm ⊢
    have b1 : (v != 0) = true := by simpa using hm
    have H := Lib.hid h.out
    clear r1 r2 hm h hv
    go_enter Try.func25, Try.ntmps25
    go_wp2_with (go_at_call 38; refine km.mono ?_; rintro e w1 ⟨rfl, rfl⟩)
    go_ret
    exact ⟨rfl, H.out⟩
theorem settle_fence (h : DiskAt w B g p N D) {n : Int} (hn : inNode n = true) {w2 : World} (ho : DiskOut w B g p N (settleK D n) w2) :
    w2.frozen? ⟨g, 6 + n.toNat, none⟩ = false ∧ w2.cell? ⟨g, 6 + n.toNat, none⟩ = some (uv (D.table n)) ∧ DiskOut w B g p N { settleK D n with table := updF D.table n 0 } (w2.setCell ⟨g, 6 + n.toNat, none⟩ (uv 0)) := by
  obtain ⟨p1, h1, k1, g1, s1⟩ := ho
  obtain ⟨f1, d1, hb1⟩ := h1.tabbed hn 0
  exact ⟨f1, d1, DiskOut.comp k1 g1 s1 (h1.turnOut (keep1 w2 g _ _) hb1 rfl rfl rfl rfl h1.seq (sane_like h1.sane rfl rfl rfl rfl rfl))⟩
set_option maxHeartbeats 1000000 in
theorem fence_any (h : DiskAt w B g p N D) (n : Int) (hN : N ≤ 1000000000) :
    Calls Try.prog 24 #[.pointer (some ⟨g, 0, none⟩), .int .i64 n] w fun e' w' => e' = .returned (.int .i64 (fenceE D n)) ∧ DiskOut w B g p N (fenceK D n) w' := by
  have km := may_any h n
  by_cases hm : mayK D n = 0
  · have hin := may_in hm
    obtain ⟨i1, i2, i3⟩ := node_nat hin
    rw [hm] at km
    have kg := goes_any h hN
    cases hg : goesB D
    · have r1 : fenceE D n = 0 := by unfold fenceE; rw [if_pos hm, hg]; rfl
      have r2 : fenceK D n = { settleK (goesK D) n with table := updF (goesK D).table n 0 } := by unfold fenceK; rw [if_pos hm, hg]; rfl
      rw [r1, r2]
      rw [hg] at kg
      clear r1 r2 hg hm h
      go_enter Try.func24, Try.ntmps24
      go_wp2_with (first
        | (go_at_call 38; refine km.mono ?_; rintro e w1 ⟨rfl, rfl⟩)
        | (go_at_call 39; refine kg.mono ?_; rintro e w1 ⟨rfl, ho⟩; obtain ⟨p1, h1, k1, g1, s1⟩ := ho; have ks := settle_any h1 n hN; have H1 := Lib.hid h1; have KC := Lib.hid (And.intro k1 (And.intro g1 s1)); clear h1 k1 g1 s1 kg km)
        | (go_at_call 40; refine ks.mono ?_; rintro e w2 ⟨rfl, ho⟩; obtain ⟨f1, d1, ho2⟩ := settle_fence H1.out hin ho; have HO := Lib.hid (DiskOut.comp KC.out.1 KC.out.2.1 KC.out.2.2 ho2); clear ho ho2 ks))
      go_ret
      exact ⟨rfl, HO.out⟩
    · have r1 : fenceE D n = 14 := by unfold fenceE; rw [if_pos hm, hg]; rfl
      have r2 : fenceK D n = goesK D := by unfold fenceK; rw [if_pos hm, hg]; rfl
      rw [r1, r2]
      rw [hg] at kg
      clear r1 r2 hg hm h
      go_enter Try.func24, Try.ntmps24
      go_wp2_with (first
        | (go_at_call 38; refine km.mono ?_; rintro e w1 ⟨rfl, rfl⟩)
        | (go_at_call 39; refine kg.mono ?_; rintro e w1 ⟨rfl, ho⟩; have HO := Lib.hid ho; clear ho kg km))
      go_ret
      exact ⟨rfl, HO.out⟩
  · have r1 : fenceE D n = mayK D n := by unfold fenceE; rw [if_neg hm]
    have r2 : fenceK D n = D := by unfold fenceK; rw [if_neg hm]
    rw [r1, r2]
    obtain ⟨v, hv⟩ : ∃ v, mayK D n = v := ⟨_, rfl⟩
    rw [hv] at km hm ⊢
    have b1 : (v != 0) = true := by simpa using hm
    have H := Lib.hid h.out
    clear r1 r2 hm h hv
    go_enter Try.func24, Try.ntmps24
    go_wp2_with (go_at_call 38; refine km.mono ?_; rintro e w1 ⟨rfl, rfl⟩)
    go_ret
    exact ⟨rfl, H.out⟩
end
end Go.Proofs.Ytacogpogplionaa.DK
