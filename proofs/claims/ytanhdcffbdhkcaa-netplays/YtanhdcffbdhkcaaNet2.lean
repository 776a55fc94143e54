/- The net: Len, Clear, without, Take, Drop. No condition. -/
import Derived.Test.YtanhdcffbdhkcaaNet1
import Derived.StillTailTactics
namespace Go.Proofs.Ytanhdcffbdhkcaa.NT
set_option maxRecDepth 100000
open Go.RowKit Go.Proofs.Ytanhdcffbdhkcaa.RP Go.Proofs.Ytanhdcffbdhkcaa.CM
set_option linter.unusedVariables false

section
variable {w : World} {B g N : Nat} {lp mp : Option Nat} {a : Option Addr} {c : Nat} {xs : List Pk} {C : Int → Int → Bool}
theorem len_net (h : NetAt w B g lp a c mp N xs C) :
    Calls Try.prog 14 #[.pointer (some ⟨g, 0, none⟩)] w fun e w' => e = .returned (.int .i64 (xs.length : Int)) ∧ RingedOut w B g lp a mp N xs C w' := by
  have hl := list_any h
  clear h
  go_enter Try.func14, Try.ntmps14
  go_wp2_with (go_at_call 29; refine hl.mono ?_; rintro e w1 ⟨r, a1, c1, rfl, h1, k1, g1⟩)
  have kp := len_any (ring_of h1)
  have R1 := Lib.hid (show RingedOut w B g lp a mp N xs C w1 from ⟨r, a1, c1, h1, k1, g1⟩)
  clear h1 k1 g1 hl
  go_wp2_with (go_at_call 35; refine kp.mono ?_; rintro e w' ⟨rfl, rfl⟩)
  go_ret
  exact ⟨rfl, R1.out⟩
theorem clear_net (h : NetAt w B g lp a c mp N xs C) :
    Calls Try.prog 16 #[.pointer (some ⟨g, 0, none⟩)] w fun e w' => e = .returned (.int .i64 (xs.length : Int)) ∧ RingedOut w B g lp a mp N [] C w' := by
  have hl := list_any h
  clear h
  go_enter Try.func16, Try.ntmps16
  go_wp2_with (go_at_call 29; refine hl.mono ?_; rintro e w1 ⟨r, a1, c1, rfl, h1, k1, g1⟩)
  have kp := clear_any (ring_of h1)
  have R1 := Lib.hid (And.intro h1 (And.intro k1 g1))
  clear h1 k1 g1 hl
  go_wp2_with (go_at_call 36; refine kp.mono ?_; rintro e w2 ⟨rfl, ho⟩)
  go_ret
  exact ⟨rfl, RingedOut.ring R1.out.1 R1.out.2.1 R1.out.2.2 ho⟩

theorem NetAt.step {w' : World} {r : Nat} {ys : List Pk} (h : NetAt w B g (some r) a c mp N xs C) (ho : RingOutN val 3 TR TP w B r 900 a ys w') : RingedOut w B g (some r) a mp N ys C w' :=
  RingedOut.ring h (Keeps.refl _ _) (Grows.refl _ _) ho
theorem RingedOut.comp {w1 w2 : World} {lp1 : Option Nat} {a1 : Option Addr} {ys : List Pk} (k1 : Keeps (netF g lp a mp) w w1) (g1 : Grows w (netF g lp a mp) (netF g lp1 a1 mp)) (ho : RingedOut w1 B g lp1 a1 mp N ys C w2) : RingedOut w B g lp a mp N ys C w2 := by
  obtain ⟨r, a', c', h1, h2, h3⟩ := ho
  exact ⟨r, a', c', h1, k1.then_ g1 h2, g1.trans k1.size h3⟩
theorem without_net (h : NetAt w B g lp a c mp N xs C) (k : Nat) (hk : k < xs.length) :
    Calls Try.prog 34 #[.pointer (some ⟨g, 0, none⟩), .int .i64 (k : Int)] w fun e w' => e = .returned (.tuple #[]) ∧ RingedOut w B g lp a mp N (xs.eraseIdx k) C w' := by
  have hl := list_any h
  clear h
  go_enter Try.func34, Try.ntmps34
  go_wp2_with (go_at_call 29; refine hl.mono ?_; rintro e w1 ⟨r, a1, c1, rfl, h1, k1, g1⟩)
  have kp := RP.list_any (ring_of h1)
  have hle := (ring_of h1).le
  have R1 := Lib.hid (And.intro h1 (And.intro k1 g1))
  clear h1 k1 g1 hl
  go_wp2_with (go_at_call 44; refine kp.mono ?_; rintro e w2 ⟨a2, c2, rfl, ho2, hk2⟩; have c0 : w2.cell? ⟨g, 0, none⟩ = some (.pointer (some ⟨r, 0, none⟩)) := (R1.out.1.keeps hk2 (fun _ _ h => h)).blk.cell 0; have kc := clear_any ((ring_of R1.out.1).keeps hk2 (fun _ _ h => h)); have O2 := Lib.hid ho2; have K2 := Lib.hid hk2; clear ho2 hk2 kp)
  obtain ⟨b2, rfl⟩ : ∃ b2, a2 = some ⟨b2, 0, none⟩ := by
    obtain ⟨b, cap, hv, _⟩ := O2.out.form (by omega)
    injection hv with hv
    exact ⟨b, hv⟩
  have hcap : xs.length ≤ c2 ∧ c2 ≤ maxLen := by
    rcases O2.out.2 with ⟨h0, _⟩ | ⟨g', cap', cur, h0, _, _, h1, h2, _⟩
    · cases h0
    · injection h0 with _ _ h0; subst h0; exact ⟨h1, h2⟩
  obtain ⟨hc1, hc2⟩ := hcap
  unfold maxLen at hc2
  refine kc.mono ?_; rintro e w3 ⟨rfl, ho3⟩
  have h2 := R1.out.1.keeps K2.out (fun _ _ h => h)
  obtain ⟨r3, a3, c3, h3, k3, g3⟩ := h2.step ho3
  have hb1 : ¬ netF g (some r) a1 mp b2 := fun hk => by
    have e1 := (O2.out.lt b2 rfl).1
    have e2 := R1.out.1.lt _ hk
    omega
  have hb2 := (O2.out.lt b2 rfl).2
  have hb3 : ¬ netF g (some r3) a3 mp b2 := fun hk => (g3 _ hk).elim hb1 (fun h => by omega)
  have l3 : Lies w3 3 (some ⟨b2, 0, none⟩) xs.length (xs.flatMap val) := (Lies.of_own O2.out).keeps (by omega) k3 (fun ad e => by cases e; exact hb1)
  have hs3 := k3.size
  have c03 : w3.cell? ⟨g, 0, none⟩ = some (.pointer (some ⟨r3, 0, none⟩)) := h3.blk.cell 0
  have kp1 := push_any (ring_of h3).drew (some ⟨b2, 0, none⟩) k c2 (by unfold maxLen; omega) (by omega) (xs.take k) (by have := (l3.take (k := k) (by omega)).drew; rwa [flat_take val_len] at this)
  rw [show min k (900 - ([] : List Pk).length) = k by simp; omega, List.take_take, Nat.min_self, List.nil_append] at kp1
  have CK := Lib.hid (((R1.out.2.1.trans K2.out (fun _ _ h => h.elim)).then_ R1.out.2.2 k3).drew)
  have CG := Lib.hid (R1.out.2.2.trans (Nat.le_trans R1.out.2.1.size K2.out.size) g3)
  have H3 := Lib.hid (And.intro h3 l3)
  have i1 : (k : Int) ≤ (c2 : Int) := by omega
  have i2 : (k : Int) + 1 ≤ (xs.length : Int) := by omega
  have i3 : (xs.length : Int) ≤ (c2 : Int) := by omega
  have i4 : (k : Int) ≤ (xs.length : Int) := by omega
  clear h3 k3 g3 kc c0 ho3 O2 K2 h2 l3 hb1
  go_wp2_with fail
  go_still_tail 7, (by kernel_rfl)
  go_wp2_with (go_at_call 32; refine kp1.mono ?_; rintro e w4 ⟨rfl, ho4⟩; have HO4 := Lib.hid ho4; clear ho4 kp1)
  obtain ⟨r4, a4, c4, h4, k4, g4⟩ := H3.out.1.drew.step HO4.out
  have hb4 : ¬ netF g (some r4) a4 mp b2 := fun hk => (g4 _ hk).elim hb3 (fun h => by have : w3.heap.size ≤ b2 := h; omega)
  have l4 : Lies w4 3 (some ⟨b2, 0, none⟩) xs.length (xs.flatMap val) := H3.out.2.drew.keeps (by omega) k4 (fun ad e => by cases e; exact hb3)
  have c04 : w4.cell? ⟨g, 0, none⟩ = some (.pointer (some ⟨r4, 0, none⟩)) := h4.blk.cell 0
  have kp2 := push_any (ring_of h4).drew (if c2 = k + 1 then some ⟨b2, 0, none⟩ else some ⟨b2, (k + 1) * 3, none⟩) (xs.length - (k + 1)) (c2 - (k + 1)) (by unfold maxLen; omega) (by omega) (xs.drop (k + 1)) (by have := (l4.cutN (k := k + 1) (by omega) hc1).drew; rwa [flat_drop val_len] at this)
  have e5 : xs.take k ++ (xs.drop (k + 1)).take (min (xs.length - (k + 1)) (900 - (xs.take k).length)) = xs.eraseIdx k := by
    rw [List.eraseIdx_eq_take_drop_succ]
    exact congrArg _ (List.take_of_length_le (by rw [List.length_drop, List.length_take]; omega))
  rw [e5] at kp2
  have DK := Lib.hid ((CK.out.then_ CG.out k4).drew)
  have DG := Lib.hid (CG.out.trans CK.out.size g4)
  have H4 := Lib.hid h4
  clear h4 k4 g4 l4 e5 CK CG c03 HO4 H3 hb3
  have q1 : IntKind.i64.wrap ((k : Int) + 1) = (k : Int) + 1 := IntWalk.i64_in _ (by omega)
  have q2 : (0 : Int) ≤ (k : Int) + 1 := by omega
  have q3 : ((k : Int) + 1).toNat = k + 1 := by omega
  go_still_tail 8, (by kernel_rfl)
  go_wp2_with (go_at_call 32; refine kp2.mono ?_; rintro e w5 ⟨rfl, ho5⟩; have HO5 := Lib.hid ho5; clear ho5 kp2)
  all_goals
    refine bodyPost_end (results_none rfl _ _ _) rfl ?_
    exact ⟨rfl, RingedOut.comp DK.out DG.out (H4.out.drew.step HO5.out)⟩

/-- The datagrams behind a Take. -/
def takeB (xs : List Pk) (k : Int) : List Pk := if inB xs k = true then xs.eraseIdx k.toNat else xs
theorem take_net (h : NetAt w B g lp a c mp N xs C) (k : Int) :
    Calls Try.prog 13 #[.pointer (some ⟨g, 0, none⟩), .int .i64 k] w fun e w' => e = .returned (.tuple #[agg (getB xs k), .bool (inB xs k)]) ∧ RingedOut w B g lp a mp N (takeB xs k) C w' := by
  have hl := peek_net (h.alloc box0) k
  have hx := fun ys w2 (ho : RingedOut (w.alloc box0) B g lp a mp N ys C w2) => RingedOut.box h ho
  have HX := Lib.hid hx
  clear hx
  obtain ⟨q, hq⟩ : ∃ q, inB xs k = q := ⟨_, rfl⟩
  obtain ⟨p, hp⟩ : ∃ p, getB xs k = p := ⟨_, rfl⟩
  obtain ⟨ys, hys⟩ : ∃ ys, takeB xs k = ys := ⟨_, rfl⟩
  rw [hq, hp] at hl ⊢
  rw [hys]
  have HQ := Lib.hid hq
  have HY := Lib.hid hys
  clear hq hp hys
  cases q
  · have HB : takeB xs k = xs := by unfold takeB; rw [HQ.out]; rfl
    rw [HB] at HY
    go_enter Try.func13, Try.ntmps13
    go_wp2_with (go_at_call 27; refine hl.mono ?_; rintro e w1 ⟨rfl, ho⟩; have R2 := HX.out _ _ ho; have b2 := R2.1 _ _ rfl; have c0 := fun o => (b2.alloc o).cell 0; have c1 := fun o => (b2.alloc o).cell 1; have c2 := fun o => (b2.alloc o).cell 2; have f0 := fun o => (b2.alloc o).frozen 0; have f1 := fun o => (b2.alloc o).frozen 1; have f2 := fun o => (b2.alloc o).frozen 2; have R3 := Lib.hid R2.2; clear R2 b2 ho)
    exact bodyPost_ret (v := .tuple #[agg p, .bool false]) (by simp [results, Try.results13, go_sem, c0, c1, c2]) rfl ⟨rfl, HY.out ▸ R3.out _ (((((Keeps.refl (only _) _).alloc _).cell_ 0 _).cell_ 1 _).cell_ 2 _)⟩
  · have hin : 0 ≤ k ∧ k < (xs.length : Int) := by
      have := HQ.out
      unfold inB at this
      exact of_decide_eq_true this
    obtain ⟨K, rfl⟩ : ∃ K : Nat, k = (K : Int) := ⟨k.toNat, by omega⟩
    have HB : takeB xs (K : Int) = xs.eraseIdx K := by unfold takeB; rw [HQ.out]; rfl
    rw [HB] at HY
    have hK : K < xs.length := by omega
    clear hin HB
    go_enter Try.func13, Try.ntmps13
    go_wp2_with (go_at_call 27; refine hl.mono ?_; rintro e w1 ⟨rfl, r, a1, c1, h1, k1, g1⟩)
    have kw := without_net (h1.alloc (.cells #[.int .i64 p.f, .int .i64 p.t, .string p.d] 28)) K hK
    have bx := fun w2 (ho : RingedOut (w1.alloc (.cells #[.int .i64 p.f, .int .i64 p.t, .string p.d] 28)) B g (some r) a1 mp N (xs.eraseIdx K) C w2) => RingedOut.box h1 ho
    have BX := Lib.hid bx
    have KG := Lib.hid (And.intro k1 g1)
    clear h1 k1 g1 bx hl
    go_wp2_with (go_at_call 34; refine kw.mono ?_; rintro e w2 ⟨rfl, ho2⟩; have R5 := BX.out _ ho2; have b5 := R5.1 _ _ rfl; have d0 := b5.cell 0; have d1 := b5.cell 1; have d2 := b5.cell 2; have ho := RingedOut.comp KG.out.1 KG.out.2 (R5.2 w2 (Keeps.refl _ _)); have R2 := HX.out _ _ ho; have b2 := R2.1 _ _ rfl; have c0 := b2.cell 0; have c1 := b2.cell 1; have c2 := b2.cell 2; have f0 := b2.frozen 0; have f1 := b2.frozen 1; have f2 := b2.frozen 2; have R3 := Lib.hid R2.2; clear R2 b2 ho; clear R5 b5 ho2)
    exact bodyPost_ret (v := .tuple #[agg p, .bool true]) (by simp [results, Try.results13, go_sem, c0, c1, c2]) rfl ⟨rfl, HY.out ▸ R3.out _ (keep3 _ _ _ _ _)⟩
theorem drop_net (h : NetAt w B g lp a c mp N xs C) (k : Int) :
    Calls Try.prog 11 #[.pointer (some ⟨g, 0, none⟩), .int .i64 k] w fun e w' => e = .returned (.bool (inB xs k)) ∧ RingedOut w B g lp a mp N (takeB xs k) C w' := by
  have hl := take_net h k
  clear h
  go_enter Try.func11, Try.ntmps11
  go_wp2_with (go_at_call 13; refine hl.mono ?_; rintro e w1 ⟨rfl, ho⟩; have HO := Lib.hid ho; clear ho hl)
  go_ret
  exact ⟨rfl, HO.out.then_ (belowNew (belowSame _) _)⟩
end
end Go.Proofs.Ytanhdcffbdhkcaa.NT
