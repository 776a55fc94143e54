/- NetPlays' reference: Send. No condition. -/
import Derived.Test.YtanhdcffbdhkcaaNp3
import Derived.Test.YtanhdcffbdhkcaaRegInv
import Derived.Test.YtanhdcffbdhkcaaNpEq
import Derived.Deep.RegionHeld3
namespace Go.Proofs.Ytanhdcffbdhkcaa.NP
set_option maxRecDepth 100000
set_option maxRecDepth 100000
open Go.RowKit Go.Proofs.Ytanhdcffbdhkcaa.RP Go.Proofs.Ytanhdcffbdhkcaa.CM Go.Proofs.Ytanhdcffbdhkcaa.NT
set_option linter.unusedVariables false
set_option linter.unusedSimpArgs false

/-- Is the pair among those that are cut? -/
def cutB (cs : List (Int × Int)) (p : Pk) : Bool := cs.any fun c => c.1 == min p.f p.t && c.2 == max p.f p.t
/-- The first k of those that are cut. -/
def cutK (cs : List (Int × Int)) (p : Pk) (k : Nat) : Bool := cutB (cs.take k) p
theorem cutK_succ {cs : List (Int × Int)} {p : Pk} {k : Nat} {c : Int × Int} (hc : cs[k]? = some c) : cutK cs p (k + 1) = (cutK cs p k || (c.1 == min p.f p.t && c.2 == max p.f p.t)) := by
  unfold cutK cutB
  rw [List.take_add_one, hc, List.any_append]
  simp
theorem cutK_all (cs : List (Int × Int)) (p : Pk) : cutK cs p cs.length = cutB cs p := by unfold cutK; rw [List.take_length]
def rsendOne (cs : List (Int × Int)) (ys : List Pk) (p : Pk) : List Pk := if decide (900 ≤ ys.length) || cutB cs p then ys else ys ++ [p]
def rsendB (cs : List (Int × Int)) (ys : List Pk) (ps : List Pk) : List Pk := ps.foldl (rsendOne cs) ys
theorem rsend_succ {cs : List (Int × Int)} {ys ps : List Pk} {k : Nat} {p : Pk} (hp : ps[k]? = some p) : rsendB cs ys (ps.take (k + 1)) = rsendOne cs (rsendB cs ys (ps.take k)) p := by
  unfold rsendB
  rw [List.take_add_one, hp, List.foldl_append]
  rfl
theorem rsend_len (cs : List (Int × Int)) (ps : List Pk) : ∀ ys, (rsendB cs ys ps).length ≤ max ys.length 900 ∧ ys.length ≤ (rsendB cs ys ps).length := by
  induction ps with
  | nil => intro ys; exact ⟨by show ys.length ≤ _; omega, Nat.le_refl _⟩
  | cons p ps ih =>
    intro ys
    have h := ih (rsendOne cs ys p)
    have h2 : (rsendOne cs ys p).length ≤ max ys.length 900 ∧ ys.length ≤ (rsendOne cs ys p).length := by
      unfold rsendOne
      by_cases h9 : 900 ≤ ys.length
      · simp [h9]
      · cases cutB cs p
        · simp [h9]; omega
        · simp; omega
    show (rsendB cs (rsendOne cs ys p) ps).length ≤ _ ∧ _ ≤ (rsendB cs (rsendOne cs ys p) ps).length
    omega
theorem RefOut.comp {w W w' : World} {B r : Nat} {a a1 ka ka1 : Option Addr} {c1 kc1 : Nat} {ys zs : List Pk} {cs ds : List (Int × Int)} (h1 : RefAt W B r a1 c1 ka1 kc1 ys cs) (k1 : Keeps (fun k => k = r) w W) (g1 : Grows w (refF r a ka) (refF r a1 ka1)) (ho : RefOut W B r a1 ka1 zs ds w') : RefOut w B r a ka zs ds w' := by
  obtain ⟨a', c', ka', kc', q1, q2, q3⟩ := ho
  exact ⟨a', c', ka', kc', q1, k1.trans q2 (fun _ _ h => h), g1.trans k1.size q3⟩
/-- An element of what is cut. -/
theorem RefAt.cutAt {w : World} {B r : Nat} {a ka : Option Addr} {c kc : Nat} {xs : List Pk} {cs : List (Int × Int)} (h : RefAt w B r a c ka kc xs cs) {k : Nat} (hk : k < cs.length) : ∃ b q, ka = some ⟨b, 0, none⟩ ∧ cs[k]? = some q ∧ b < w.heap.size ∧ (k : Int) < (kc : Int) ∧ w.cell? ⟨b, k * 2, none⟩ = some (.int .i64 q.1) ∧ w.cell? ⟨b, k * 2 + 1, none⟩ = some (.int .i64 q.2) := by
  obtain ⟨b, cap, hv1, hv2, _⟩ := h.cut.form (by omega)
  injection hv1 with hv1 hv2' hv3
  subst hv1
  have hkc : cs.length ≤ kc := by
    rcases h.cut.2 with ⟨h0, h1⟩ | ⟨g', cap, cur, h0, _, _, h1, h2, _⟩
    · injection h0 with _ h2 h3; omega
    · injection h0 with _ _ h3; omega
  have hv : ∀ x, (val2 x).length = 2 := fun _ => rfl
  have hc : ∀ j u, j < 2 → (val2 cs[k])[j]? = some u → w.cell? ⟨b, k * 2 + j, none⟩ = some u := fun j u hj hu => by
    have := h.cut.cells (g := b) rfl (k * 2 + j) u (by rw [flat_at hv cs k j hk hj, hu])
    rwa [addr_add, Nat.zero_add] at this
  have h0 := hc 0 _ (by omega) rfl
  rw [Nat.add_zero] at h0
  exact ⟨b, cs[k], rfl, List.getElem?_eq_getElem hk, World.block_lt_of_cell? w _ h0, by omega, h0, hc 1 _ (by omega) rfl⟩
section
variable {w w' W w1 : World} {B r c kc : Nat} {a ka : Option Addr} {xs ys : List Pk} {cs : List (Int × Int)}
set_option maxHeartbeats 16000000 in
theorem rsend_any (h : RefAt w B r a c ka kc ys cs) (A : Option Addr) (n cA : Nat) (ps : List Pk) (hl : Lies w 3 A n (ps.flatMap val)) (hA : 0 < n → ∃ b off, A = some ⟨b, off, none⟩ ∧ b ≠ r) (hn : n ≤ 1000) (hnc : n ≤ cA) (hy : ys.length ≤ 1000) (hcs : cs.length ≤ 1000) :
    Calls Try.prog 19 #[.pointer (some ⟨r, 0, none⟩), .slice A n cA] w fun e w' => e = .returned (.int .i64 (((rsendB cs ys ps).length : Int) - (ys.length : Int))) ∧ RefOut w B r a ka (rsendB cs ys ps) cs w' := by
  obtain ⟨i0, hi, hz0, hz1, hz2⟩ := info_parts infoK
  have hln : ps.length = n := by have := hl.1; rw [flat_len val_len] at this; omega
  have HL := Lib.hid hl
  have HN := Lib.hid hln
  have HH := Lib.hid h
  have HA := Lib.hid hA
  have hrl := h.blk.lt
  have HLR := Lib.hid hrl
  clear hl hln h hA hrl
  go_enter Try.func19, Try.ntmps19
  go_wp2_with fail
  go_loopw [5, 6] (fun s i wr => ∃ (k : Nat) (zs : List Pk), k ≤ n ∧ i = .int .i64 (k : Int) ∧ s = .int .i64 ((zs.length : Int) - (ys.length : Int)) ∧ Hid (rsendB cs ys (ps.take k) = zs ∧ RefOut w B r a ka zs cs wr)) (fun _ i _ => n - (intOf i).toNat)
  case atStart => exact ⟨0, ys, by omega, rfl, by simp, Lib.hid ⟨rfl, HH.out.out⟩⟩
  case round =>
    obtain ⟨k, zs, hk, rfl, rfl, H⟩ := hrel
    by_cases hlt : k < n
    · obtain ⟨bA, offA, rfl, hbr⟩ := HA.out (by omega)
      obtain ⟨p, hp⟩ : ∃ p, ps[k]? = some p := ⟨_, List.getElem?_eq_getElem (by rw [HN.out]; exact hlt)⟩
      obtain ⟨hrs, a1, c1, ka1, kc1, h1, k1, g1⟩ := H.out
      have hzl := rsend_len cs (ps.take k) ys
      rw [hrs] at hzl
      have hsu := rsend_succ (cs := cs) (ys := ys) hp
      rw [hrs] at hsu
      obtain ⟨pf, pt, pd⟩ := p
      obtain ⟨hcl, hcm⟩ := h1.capLe
      unfold maxLen at hcm
      have hLr := HL.out.keeps (by decide) k1 (fun ad e hk => by injection e with e; subst e; exact hbr hk)
      obtain ⟨x0, x1, x2⟩ := lies3 hLr hlt hp
      have hbA : bA < wr.heap.size := World.block_lt_of_cell? wr _ x0
      have c0 : wr.cell? ⟨r, 0, none⟩ = some (.slice a1 zs.length c1) := h1.blk.cell 0
      have c1' : wr.cell? ⟨r, 1, none⟩ = some (.slice ka1 cs.length kc1) := h1.blk.cell 1
      obtain ⟨N, hN⟩ : ∃ N, zs.length = N := ⟨_, rfl⟩
      rw [hN] at c0 hcl hzl
      obtain ⟨L, hL⟩ : ∃ L : Bool, decide ((900 : Int) ≤ (N : Int)) = L := ⟨_, rfl⟩
      obtain ⟨M, hM⟩ : ∃ M, cs.length = M := ⟨_, rfl⟩
      rw [hM] at c1'
      have hMl : M ≤ 1000 := by omega
      have e1 : IntKind.i64.wrap ((k : Int) + 1) = (k : Int) + 1 := IntWalk.i64_in _ (by omega)
      have HH1 := Lib.hid h1
      have HK1 := Lib.hid (And.intro k1 g1)
      have HNN := Lib.hid hN
      have HM := Lib.hid hM
      have HSU := Lib.hid hsu
      have HLL := Lib.hid hL
      have HZL := Lib.hid hzl
      have hrl := h1.blk.lt
      have XC := Lib.hid (fun (W : World) (hb : Below wr.heap.size wr W) => show W.cell? ⟨r, 1, none⟩ = some (.slice ka1 M kc1) ∧ W.cell? ⟨bA, offA + k * 3, none⟩ = some (.int .i64 pf) ∧ W.cell? ⟨bA, offA + k * 3 + 1, none⟩ = some (.int .i64 pt) ∧ W.cell? ⟨bA, offA + k * 3 + 2, none⟩ = some (.string pd) from ⟨(hb.cell hrl).trans c1', (hb.cell hbA).trans x0, (hb.cell hbA).trans x1, (hb.cell hbA).trans x2⟩)
      have hkA : (k : Int) < (cA : Int) := by omega
      clear hp hrs h1 k1 g1 hzl hsu hN hM hLr hrl hbA H x0 x1 x2 c1'
      go_upto_region 6 with fail
      clear hL c0
      go_wp2_with fail
      go_loopw [7, 8] (fun lo kk wx => ∃ m : Nat, m ≤ M ∧ kk = .int .i64 (m : Int) ∧ lo = .bool (L || cutK cs ⟨pf, pt, pd⟩ m) ∧ Hid (Below wr.heap.size wr wx)) (fun _ kk _ => M - (intOf kk).toNat)
      case atStart => exact ⟨0, by omega, rfl, by simp [cutK, cutB], Lib.hid (belowSame _)⟩
      case round =>
        obtain ⟨m, hm, rfl, rfl, HB⟩ := hrel
        have hx := XC.out _ HB.out
        have y1 := hx.1
        have y2 := hx.2.1
        have y3 := hx.2.2.1
        clear hx
        by_cases hml : m < M
        · obtain ⟨bc, qc, rfl, hq, hbc, hkc, u0, u1⟩ := (HH1.out.old HB.out).cutAt (k := m) (by have := HM.out; omega)
          have hsuc := cutK_succ (p := ⟨pf, pt, pd⟩) hq
          dsimp only at hsuc
          have HSC := Lib.hid hsuc
          have e2 : IntKind.i64.wrap ((m : Int) + 1) = (m : Int) + 1 := IntWalk.i64_in _ (by omega)
          clear hsuc hq
          obtain ⟨lo, hlo⟩ : ∃ lo, (L || cutK cs ⟨pf, pt, pd⟩ m) = lo := ⟨_, rfl⟩
          rw [hlo]
          have HLO := Lib.hid hlo
          clear hlo
          cases lo
          · obtain ⟨qa, qb⟩ := qc
            dsimp only at u0 u1
            obtain ⟨t1, ht1⟩ : ∃ t, (qa == min pf pt) = t := ⟨_, rfl⟩
            obtain ⟨t2, ht2⟩ : ∃ t, (qb == max pf pt) = t := ⟨_, rfl⟩
            have HT := Lib.hid (And.intro ht1 ht2)
            go_wp2_with fail
            have heq : ∀ W : World, (Op.equalIn 10000 63 (.agg #[.int .i64 qa, .int .i64 qb]) (.agg #[.int .i64 (min pf pt), .int .i64 (max pf pt)])).run Try.prog W = .ok (t1 && t2) W := fun W => by rw [pair_eq, ht1, ht2]
            clear ht1 ht2
            have HHC := Lib.hid (And.intro u0 (And.intro u1 hbc))
            go_region_held3 (fun W => W.cell? ⟨r, 1, none⟩ = some (.slice (some ⟨bc, 0, none⟩) M kc1) ∧ W.cell? ⟨bc, m * 2, none⟩ = some (.int .i64 qa) ∧ W.cell? ⟨bc, m * 2 + 1, none⟩ = some (.int .i64 qb) ∧ W.cell? ⟨bA, offA + k * 3, none⟩ = some (.int .i64 pf) ∧ W.cell? ⟨bA, offA + k * 3 + 1, none⟩ = some (.int .i64 pt)) (go_keep) (first
              | (go_at_call 38; refine (rends_any pf pt _).mono ?_; rintro e w5 ⟨rfl, hb5⟩; have HB5 := Lib.hid (belowThen (belowDrew HB.out) hb5); have s0 := (XC.out w5 HB5.out).1; have s1 := (XC.out w5 HB5.out).2.1; have s2 := (XC.out w5 HB5.out).2.2.1; have s3 : w5.cell? ⟨bc, m * 2, none⟩ = some (.int .i64 qa) := (hb5.cell HHC.out.2.2).trans HHC.out.1; have s4 : w5.cell? ⟨bc, m * 2 + 1, none⟩ = some (.int .i64 qb) := (hb5.cell HHC.out.2.2).trans HHC.out.2.1; clear hb5))
            unfold pairV
            go_wp2_with fail
            go_roundw
            case rel => exact ⟨m + 1, by omega, by go_num, by rw [HSC.out, ← Bool.or_assoc, HLO.out, HT.out.1, HT.out.2]; first | rfl | simp, HB5⟩
            case measure => simp [intOf]; omega
          · go_wp2_with fail
            go_quiet (fail)
            go_wp2_with fail
            go_roundw
            case rel => exact ⟨m + 1, by omega, by go_num, by rw [HSC.out, ← Bool.or_assoc, HLO.out]; rfl, Lib.hid (belowDrewN HB.out _)⟩
            case measure => simp [intOf]; omega
        · obtain rfl : m = M := by omega
          obtain ⟨lo, hlo⟩ : ∃ lo, (L || cutK cs ⟨pf, pt, pd⟩ m) = lo := ⟨_, rfl⟩
          rw [hlo]
          have hone : rsendOne cs zs ⟨pf, pt, pd⟩ = if lo then zs else zs ++ [⟨pf, pt, pd⟩] := by
            unfold rsendOne
            rw [show cutB cs ⟨pf, pt, pd⟩ = cutK cs ⟨pf, pt, pd⟩ m by rw [← HM.out, cutK_all], show decide (900 ≤ zs.length) = L by rw [← HLL.out, HNN.out]; by_cases h9 : 900 ≤ N <;> simp [h9] <;> omega, hlo]
          have hL0 : lo = false → N < 900 := fun h => by
            rw [h] at hlo
            have h1 := HLL.out
            cases L
            · have h2 : (N : Int) < 900 := by simpa using h1
              omega
            · simp at hlo
          have HONE := Lib.hid hone
          have hx3 := (XC.out _ HB.out).2.2.2
          cases lo
          · have hN9 := hL0 rfl
            have HD := Lib.hid ((HH1.out.old HB.out).old (belowDrew (belowSame _)))
            have XS := Lib.hid (fun (w4 : World) (hb4 : Below wr.drew.heap.size wr.drew w4) => (XC.out w4 (belowThen (belowDrew HB.out) hb4)).2)
            have e3 : IntKind.i64.wrap ((zs.length : Int) - (ys.length : Int) + 1) = (zs.length : Int) - (ys.length : Int) + 1 := IntWalk.i64_in _ (by have := HNN.out; have := hy; omega)
            clear hlo hone hL0
            go_upto_region 11 with fail
            have hd := HD.out
            have hlr := hd.blk.lt
            have L1 : Lies wr.drew 3 a1 N (zs.flatMap val) := by have := hd.lies; rwa [HNN.out] at this
            have L1b : Lies (wr.drew.alloc (.cells #[.int .i64 pf, .int .i64 pt, .string pd] RK)) 3 a1 N (zs.flatMap val) := L1.old (by decide) (belowNew (belowSame _) _)
            have hbb : wr.drew.heap.size ≤ (wr.drew.alloc (.cells #[.int .i64 pf, .int .i64 pt, .string pd] RK)).heap.size := (belowNew (belowSame wr.drew) (.cells #[.int .i64 pf, .int .i64 pt, .string pd] RK)).size
            have ones : ∀ u ∈ zs.flatMap val, u.oneCell' = true := one_val zs
            have onep : ∀ u ∈ ([.int .i64 pf, .int .i64 pt, .string pd] : List Value), u.oneCell' = true := by intro u hu; simp at hu; rcases hu with rfl | rfl | rfl <;> rfl
            have HR0 := Lib.hid (fun (w4 : World) (hb4 : Below wr.drew.heap.size wr.drew w4) => show w4.cell? ⟨r, 0, none⟩ = some (.slice a1 N c1) ∧ w4.frozen? ⟨r, 0, none⟩ = false from ⟨by rw [← HNN.out]; exact (hd.blk.below hb4 hlr).cell 0, (hd.blk.below hb4 hlr).frozen 0⟩)
            have c0 := (HR0.out wr.drew (belowSame _)).1
            have q0 := (HR0.out (wr.drew.alloc (.cells #[.int .i64 pf, .int .i64 pt, .string pd] RK)) (belowNew (belowSame _) _)).1
            have q1 : (wr.alloc (.cells #[.int .i64 pf, .int .i64 pt, .string pd] RK)).cell? ⟨r, 0, none⟩ = some (.slice a1 N c1) := q0
            have HF := Lib.hid (show ∀ (w5 : World) (a5 : Option Addr) (c5 : Nat), w5.ownsRow wr.drew.heap.size RK 3 (.slice a5 (N + 1) c5) (N + 1) (zs.flatMap val ++ [.int .i64 pf, .int .i64 pt, .string pd]) → Below wr.drew.heap.size wr.drew w5 →
                RefOut wr.drew B r a1 ka1 (zs ++ [⟨pf, pt, pd⟩]) cs (w5.setCell ⟨r, 0, none⟩ (.slice a5 (N + 1) c5)) from fun w5 a5 c5 ho hb => by
              have e : (zs ++ [(⟨pf, pt, pd⟩ : Pk)]).flatMap val = zs.flatMap val ++ [.int .i64 pf, .int .i64 pt, .string pd] := by rw [List.flatMap_append]; simp
              rw [← e] at ho
              exact hd.putL hb ho (by have := HNN.out; simp; omega))
            clear hd hlr
            have sc0 : wr.cell? ⟨r, 0, none⟩ = some (.slice a1 N c1) := c0
            have v0 := (XS.out wr.drew (belowSame _)).1
            have v1 := (XS.out wr.drew (belowSame _)).2.1
            have v2 := (XS.out wr.drew (belowSame _)).2.2
            go_region_law (first
              | (refine step_append_lie _ rfl (.const (.slice none 0 0)) (.tmp 58) 40 rfl wr.drew.heap.size RK i0 _ 3 32 Try.underlying40 hi hz0 hz1 hz2 rfl (by decide) none 0 0 [] rfl (World.ownsRow_nil _ _ _ _) a1 N c1 (zs.flatMap val) (by go_simp) L1 ones (by unfold maxLen; omega) (by omega) (Nat.le_refl _) ?_; intro a4 c4 w4 ho4 hg4 hat4
                 simp only [Nat.zero_add, List.nil_append] at ho4 ⊢
                 have B4 := row_first hg4
                 have B4a := belowNew B4 (.cells #[.int .i64 pf, .int .i64 pt, .string pd] RK)
                 have r4 := (HR0.out w4 B4).1
                 have r4a := (HR0.out _ B4a).1
                 have z0 := (XS.out w4 B4).1; have z1 := (XS.out w4 B4).2.1; have z2 := (XS.out w4 B4).2.2
                 have ho4a := own_keeps ho4 ((Keeps.refl (fun _ => False) w4).alloc (.cells #[.int .i64 pf, .int .i64 pt, .string pd] RK)) (fun _ _ h => h)
                 have hl4a : Lies (w4.alloc (.cells #[.int .i64 pf, .int .i64 pt, .string pd] RK)) 3 (some ⟨w4.heap.size, 0, none⟩) 1 [.int .i64 pf, .int .i64 pt, .string pd] := (by have := Lies.of_blk (Blk.new w4 RK #[.int .i64 pf, .int .i64 pt, .string pd]); exact ⟨rfl, fun _ => this.2 (by simp)⟩)
                 clear hg4 hat4)
              | (refine step_append_lie _ rfl (.const (.slice none 0 0)) (.tmp 58) 40 rfl wr.drew.heap.size RK i0 _ 3 32 Try.underlying40 hi hz0 hz1 hz2 rfl (by decide) none 0 0 [] rfl (World.ownsRow_nil _ _ _ _) a1 N c1 (zs.flatMap val) (by go_simp) L1b ones (by unfold maxLen; omega) (by omega) hbb ?_; intro a4 c4 w4 ho4 hg4 hat4
                 simp only [Nat.zero_add, List.nil_append] at ho4 ⊢
                 have B4b := belowThen (belowNew (belowSame wr.drew) (.cells #[.int .i64 pf, .int .i64 pt, .string pd] RK)) (row_first hg4)
                 have r4 := (HR0.out w4 B4b).1
                 have hl4b : Lies w4 3 (some ⟨wr.heap.size, 0, none⟩) 1 [.int .i64 pf, .int .i64 pt, .string pd] := (by have := Lies.of_blk ((Blk.new wr.drew RK #[.int .i64 pf, .int .i64 pt, .string pd]).below (row_first hg4) (Blk.new wr.drew RK #[.int .i64 pf, .int .i64 pt, .string pd]).lt); exact ⟨rfl, fun _ => this.2 (by simp)⟩)
                 clear hg4 hat4)
              | (refine step_append_lie _ rfl (.tmp 59) (.tmp 64) 40 rfl wr.drew.heap.size RK i0 _ 3 32 Try.underlying40 hi hz0 hz1 hz2 rfl (by decide) a4 N c4 (zs.flatMap val) (by go_simp) ho4a (some ⟨w4.heap.size, 0, none⟩) 1 1 [.int .i64 pf, .int .i64 pt, .string pd] (by go_simp) hl4a onep (by unfold maxLen; omega) (by omega) B4a.size ?_; intro a5 c5 w5 ho5 hg5 hat5
                 have B5 := row_more2 ho4a B4a hg5
                 have H5 := Lib.hid (HF.out w5 a5 c5 ho5 B5)
                 have r5 := (HR0.out w5 B5).1
                 have f5 := (HR0.out w5 B5).2
                 clear ho4 ho4a hl4a B4 B4a ho5 hg5 hat5 B5 r4 r4a)
              | (refine step_append_lie _ rfl (.tmp 59) (.tmp 64) 40 rfl wr.drew.heap.size RK i0 _ 3 32 Try.underlying40 hi hz0 hz1 hz2 rfl (by decide) a4 N c4 (zs.flatMap val) (by go_simp) ho4 (some ⟨wr.heap.size, 0, none⟩) 1 1 [.int .i64 pf, .int .i64 pt, .string pd] (by go_simp) hl4b onep (by unfold maxLen; omega) (by omega) B4b.size ?_; intro a5 c5 w5 ho5 hg5 hat5
                 have B5 := row_more2 ho4 B4b hg5
                 have H5 := Lib.hid (HF.out w5 a5 c5 ho5 B5)
                 have r5 := (HR0.out w5 B5).1
                 have f5 := (HR0.out w5 B5).2
                 clear ho4 hl4b B4b ho5 hg5 hat5 B5 r4))
            all_goals
              go_wp2_with fail
              go_roundw
              case rel =>
                refine ⟨k + 1, zs ++ [⟨pf, pt, pd⟩], by omega, by go_num, by simp; omega, Lib.hid ⟨?_, ?_⟩⟩
                · rw [HSU.out, HONE.out]; rfl
                · exact RefOut.comp HH1.out HK1.out.1 HK1.out.2 (RefOut.from (belowDrew HB.out) H5.out)
              case measure => simp [intOf]; omega
          · clear hlo hone hL0
            go_wp2_with fail
            go_roundw
            case rel =>
              refine ⟨k + 1, zs, by omega, by go_num, rfl, Lib.hid ⟨?_, ?_⟩⟩
              · rw [HSU.out, HONE.out]; rfl
              · exact (RefOut.comp HH1.out HK1.out.1 HK1.out.2 HH1.out.out).then_ HB.out
            case measure => simp [intOf]; omega
    · obtain rfl : k = n := by omega
      have hE : RefOut w B r a ka (rsendB cs ys ps) cs wr ∧ zs = rsendB cs ys ps := by
        have h1 := H.out
        rw [List.take_of_length_le (by rw [HN.out]; omega)] at h1
        exact ⟨by rw [h1.1]; exact h1.2, h1.1.symm⟩
      have HE := Lib.hid hE
      clear hE H
      go_wp2
      exact end_ret (t := 4) (v := .int .i64 ((zs.length : Int) - (ys.length : Int))) (by kernel_rfl) rfl rfl ⟨by rw [HE.out.2], HE.out.1⟩
end
end Go.Proofs.Ytanhdcffbdhkcaa.NP
