/- NetPlays: every net, and every call, in every order; what is handed in stays. No condition. -/
import Derived.Test.YtanhdcffbdhkcaaNp11
import Derived.Deep.CutBlock
import Derived.Deep.Cut
import Derived.Carry
import Derived.Deep.RegionHeld3
namespace Go.Proofs.Ytanhdcffbdhkcaa.NP
set_option maxRecDepth 100000
set_option maxRecDepth 100000
open Go.RowKit Go.Proofs.Ytanhdcffbdhkcaa.RP Go.Proofs.Ytanhdcffbdhkcaa.CM Go.Proofs.Ytanhdcffbdhkcaa.NT
set_option linter.unusedVariables false
set_option linter.unusedSimpArgs false

theorem lies_lent {W : World} {b n : Nat} {cur : Array Value} {l : List Pk} (hb : Blk W b TP cur) (hc : ∀ (j : Nat) (u : Value), (l.flatMap val ++ markP)[j]? = some u → cur[j]? = some u) (hn : l.length = n) : Lies W 3 (some ⟨b, 0, none⟩) n (l.flatMap val) := by
  refine ⟨by rw [flat_len val_len, hn], fun _ => ⟨_, rfl, fun j u hu => ?_⟩⟩
  rw [Go.WideShapes.add_plain, Nat.zero_add]
  have hj : j < (l.flatMap val).length := by
    rcases Nat.lt_or_ge j (l.flatMap val).length with h | h
    · exact h
    · rw [List.getElem?_eq_none h] at hu; cases hu
  exact (hb.cell j).trans (hc j u (by rw [List.getElem?_append_left hj]; exact hu))
theorem row_ne {W W' : World} {a : Option Addr} {n c r : Nat} {zs : List Value} (h : W'.ownsRow W.heap.size RK 3 (.slice a n c) n zs) (hr : r < W.heap.size) : 0 < n → ∃ b off, a = some ⟨b, off, none⟩ ∧ b ≠ r := by
  intro h0
  rcases h.2 with ⟨e, h1⟩ | ⟨g', cap, cur, e, hg, _⟩
  · injection e with e1 e2 e3; omega
  · injection e with e1 e2 e3; exact ⟨g', 0, e1, by omega⟩
theorem row_cap {w : World} {B n c : Nat} {a : Option Addr} {zs : List Value} (h : w.ownsRow B RK 3 (.slice a n c) n zs) : n ≤ c := by
  rcases h.2 with ⟨e, h0⟩ | ⟨g', cap, cur, e, _, _, k1, k2, _⟩
  · injection e with e1 e2 e3; omega
  · injection e with e1 e2 e3; omega
theorem k_lt {w0 W : World} {g r N : Nat} {xs ys : List Pk} {C : Int → Int → Bool} {cs : List (Int × Int)} {bl : List (Nat × TypeId × Array Value)} (h : PlayAt w0 g r N xs C ys cs bl W) : r < W.heap.size := by
  obtain ⟨lp, a, c, mp, aL, cL, aC, cC, h1, h2, _⟩ := h
  exact h2.blk.lt
/-- A round of the great Send. -/
def Grow (w : World) (g r N : Nat) (C : Int → Int → Bool) (cs : List (Int × Int)) (y8 : Nat) (vs : Array Value) (W : World) : Prop := ∃ xs, xs.length ≤ 900 ∧ PlayAt w g r N xs C xs cs [(y8, 49, vs)] W
abbrev pg : Pk := ⟨1, 2, ⟨#[]⟩⟩
section
variable {w W : World} {g r N k y8 : Nat} {xs ys : List Pk} {C : Int → Int → Bool} {cs : List (Int × Int)} {vs : Array Value}
theorem mid_of {xs' : List Pk} (h : N ≤ k ∧ xs.length ≤ 900 ∧ cs.length ≤ k ∧ CutRel C cs) (hl : xs'.length ≤ 900) (hp : PlayAt w g r N xs' C xs' cs [(y8, 49, vs)] W) : Mid w g r k y8 vs W := ⟨N, xs', C, cs, by omega, hl, by omega, h.2.2.2, hp⟩
theorem grow_mid (h : N ≤ k ∧ xs.length ≤ 900 ∧ cs.length ≤ k ∧ CutRel C cs) (hg : Grow w g r N C cs y8 vs W) : Mid w g r k y8 vs W := by
  obtain ⟨xs', hl, hp⟩ := hg
  exact mid_of h hl hp
theorem grow_send (h : PlayAt w g r N xs C ys cs [(y8, 49, vs)] W) : Calls Try.prog 9 #[.pointer (some ⟨g, 0, none⟩), .slice (some ⟨W.heap.size, 0, none⟩) 1 1] (W.alloc (.cells #[.int .i64 1, .int .i64 2, .string ⟨#[]⟩] 28)) fun e w' => e = .returned (.int .i64 (((sendB C xs [pg]).length : Int) - (xs.length : Int))) ∧ PlayAt w g r N (sendB C xs [pg]) C ys cs [(y8, 49, vs)] w' := by
  have h2 := h.side_new (belowNew (belowSame W) (.cells #[.int .i64 1, .int .i64 2, .string ⟨#[]⟩] 28)) (Blk.new W 28 #[.int .i64 1, .int .i64 2, .string ⟨#[]⟩]) (Nat.le_refl _)
  refine (j_send h2 (List.mem_cons_self ..) 1 1 [pg] (lies_pks W [pg] _ rfl) (by omega) (by omega) ?_).mono fun _ _ ⟨a, b⟩ => ⟨a, b.pop⟩
  intro p hp
  simp at hp
  subst hp
  exact ⟨(rfl : (Lit.int .i64 1).wf = true), (rfl : (Lit.int .i64 2).wf = true), by decide⟩
theorem lies_refs (w : World) (ps : List Pk) (cs : Array Value) (hc : cs.toList = ps.flatMap val) : Lies (w.alloc (.cells cs 55)) 3 (some ⟨w.heap.size, 0, none⟩) ps.length (ps.flatMap val) := by
  have h := Lies.of_blk (Blk.new w 55 cs)
  rw [hc] at h
  refine ⟨by rw [flat_len val_len], fun hn => h.2 ?_⟩
  have e : cs.size = cs.toList.length := by simp
  rw [e, hc, flat_len val_len]
  omega
theorem grow_rsend (h : PlayAt w g r N xs C ys cs [(y8, 49, vs)] W) (hy : ys.length ≤ 1000) (hcs : cs.length ≤ 1000) : Calls Try.prog 19 #[.pointer (some ⟨r, 0, none⟩), .slice (some ⟨W.heap.size, 0, none⟩) 1 1] (W.alloc (.cells #[.int .i64 1, .int .i64 2, .string ⟨#[]⟩] 55)) fun e w' => e = .returned (.int .i64 (((rsendB cs ys [pg]).length : Int) - (ys.length : Int))) ∧ PlayAt w g r N xs C (rsendB cs ys [pg]) cs [(y8, 49, vs)] w' := by
  have hlt := k_lt h
  have h2 := h.then_ (belowNew (belowSame W) (.cells #[.int .i64 1, .int .i64 2, .string ⟨#[]⟩] 55))
  exact k_send h2 _ 1 1 [pg] (lies_refs W [pg] _ rfl) (fun _ => ⟨_, _, rfl, by omega⟩) (by omega) (by omega) hy hcs
theorem grow_more (hr : CutRel C cs) (hx : xs.length ≤ 900) (hp : PlayAt w g r N (sendB C xs [pg]) C (rsendB cs xs [pg]) cs [(y8, 49, vs)] W) : Grow w g r N C cs y8 vs W := by
  rw [← send_same hr] at hp
  exact ⟨_, send_len2 hr _ xs hx, hp⟩
end
def PQuiet (w : World) (e : Ending) (w' : World) : Prop := e = .returned (.bool true) ∧ Below w.heap.size w w'
set_option maxHeartbeats 4000000 in
theorem plays_long (w : World) (zero : Bool) (a0 : Option Addr) (len0 cap0 : Nat) (hl : 120 < len0) : Calls Try.prog 5 #[.bool zero, .slice a0 len0 cap0] w (PQuiet w) := by
  have ka := fun W => alive_any W
  have d0 : (120 : Int) < (len0 : Int) := by omega
  clear hl
  go_enter Try.func5, Try.ntmps5
  go_wp2_with (go_at_call 7; refine (ka _).mono ?_; rintro x w1 ⟨rfl, hb⟩; have HB1 := Lib.hid hb; clear hb)
  exact end_ret (t := 4) (v := .bool true) (by kernel_rfl) rfl rfl ⟨rfl, HB1.out⟩
/-- The state at a round's head. -/
def Rnd (w : World) (g r k : Nat) (W : World) : Prop := ∃ N xs C cs, N ≤ k ∧ xs.length ≤ 900 ∧ cs.length ≤ k ∧ CutRel C cs ∧ PlayAt w g r N xs C xs cs [] W
set_option maxHeartbeats 16000000 in
theorem plays_go (w : World) (zero : Bool) (a0 : Option Addr) (len0 cap0 : Nat) (os : List OpN) (h : OpsIs w a0 len0 cap0 os) (hl : len0 ≤ 120) : Calls Try.prog 5 #[.bool zero, .slice a0 len0 cap0] w (PQuiet w) := by
  have ka := fun W => alive_any W
  have kn := new_net w
  have d0 : ¬ (120 : Int) < (len0 : Int) := by omega
  obtain ⟨hlc, hcm, hol, hok, hrow⟩ := h
  have HOK := Lib.hid hok
  have HOL := Lib.hid hol
  have HRW := Lib.hid hrow
  clear hok hol hrow
  unfold maxLen at hcm
  go_enter Try.func5, Try.ntmps5
  go_upto_region 4 with (go_at_call 8; refine kn.mono ?_; rintro e w1 ⟨rfl, h1, h2⟩; have H1 := Lib.hid (play_new (w0 := w) h1 h2); clear h1 h2 kn)
  obtain ⟨W1, hW1⟩ : ∃ W, w1.alloc (.cells #[.slice none 0 0, .slice none 0 0] RT) = W := ⟨_, rfl⟩
  have h1 := H1.out
  rw [hW1] at h1
  rw [show w1.alloc (.cells #[.slice none 0 0, .slice none 0 0] 43) = W1 from hW1]
  obtain ⟨r, hr⟩ : ∃ r, w1.heap.size = r := ⟨_, rfl⟩
  rw [hr] at h1
  rw [hr]
  have H2 := Lib.hid h1
  clear H1 h1 hW1 hr
  go_upto_if 30 with fail
  go_cut [5] from 31 to 32 (fun p wx => ∃ g, p = .pointer (some ⟨g, 0, none⟩) ∧ Hid (PlayAt w g r 0 [] (fun _ _ => false) [] [] [] wx))
  case first =>
    cases zero
    · go_wp2_with fail
      go_meet
      exact ⟨_, rfl, H2⟩
    · have HZ := Lib.hid (play_zero (w1 := w) H2.out)
      go_wp2_with fail
      go_meet
      exact ⟨_, rfl, HZ⟩
  case rest =>
    obtain ⟨g, rfl, HP⟩ := hcut
    go_wp2_with fail
    go_loopw [7] (fun i wr => ∃ k : Nat, k ≤ len0 ∧ i = .int .i64 (k : Int) ∧ Hid (Rnd w g r k wr)) (fun i _ => len0 - (intOf i).toNat)
    case atStart => exact ⟨0, by omega, rfl, Lib.hid ⟨0, [], _, [], by omega, by simp, by simp, rel_new, HP.out⟩⟩
    case round =>
      obtain ⟨k, hk, rfl, HR⟩ := hrel
      by_cases hlt : k < len0
      · obtain ⟨b0, off0, rfl, hb0, hcell⟩ := HRW.out (by omega)
        obtain ⟨o, ho⟩ : ∃ o, os[k]? = some o := ⟨_, List.getElem?_eq_getElem (by rw [HOL.out]; exact hlt)⟩
        have hoo := HOK.out o (List.mem_of_getElem? ho)
        have hcc := hcell k o ho
        obtain ⟨kd, oa, ob, pa, pn, pc, ps⟩ := o
        obtain ⟨wk, wa, wb, hP⟩ := hoo
        dsimp only at wk wa wb hP
        obtain ⟨N, xs, C, cs, hN, hxs, hcs, hrel, hpl⟩ := HR.out
        have hbl := hpl.bel
        have x0 : wr.cell? ⟨b0, off0 + k * 4, none⟩ = some (Value.int .i64 kd) := (hbl.cell (p := ⟨b0, off0 + k * 4, none⟩) hb0).trans (by have := hcc 0 _ rfl; rwa [← Nat.add_assoc] at this)
        have x1 : wr.cell? ⟨b0, off0 + k * 4 + 1, none⟩ = some (Value.int .i64 oa) := (hbl.cell (p := ⟨b0, off0 + k * 4 + 1, none⟩) hb0).trans (by have := hcc 1 _ rfl; rwa [← Nat.add_assoc] at this)
        have x2 : wr.cell? ⟨b0, off0 + k * 4 + 2, none⟩ = some (Value.int .i64 ob) := (hbl.cell (p := ⟨b0, off0 + k * 4 + 2, none⟩) hb0).trans (by have := hcc 2 _ rfl; rwa [← Nat.add_assoc] at this)
        have x3 : wr.cell? ⟨b0, off0 + k * 4 + 3, none⟩ = some (Value.slice pa pn pc) := (hbl.cell (p := ⟨b0, off0 + k * 4 + 3, none⟩) hb0).trans (by have := hcc 3 _ rfl; rwa [← Nat.add_assoc] at this)
        have hkc : (k : Int) < (cap0 : Int) := by omega
        have hpn := hP.1
        have hpm := hP.2.1
        unfold maxLen at hpm
        have e9 : IntKind.i64.wrap ((k : Int) + 1) = (k : Int) + 1 := IntWalk.i64_in _ (by omega)
        have HPK := Lib.hid hP
        have HW := Lib.hid (And.intro wk (And.intro wa wb))
        have HREL := Lib.hid (And.intro hN (And.intro hxs (And.intro hcs hrel)))
        have h4 := hpl.side_new (belowNew (belowSame wr) (.cells #[.int .i64 kd, .int .i64 oa, .int .i64 ob, .slice pa pn pc] 49)) (Blk.new wr 49 #[.int .i64 kd, .int .i64 oa, .int .i64 ob, .slice pa pn pc]) (Nat.le_refl _)
        go_upto_region 12 with fail
        obtain ⟨W4, hW4⟩ : ∃ W, wr.alloc (.cells #[.int .i64 kd, .int .i64 oa, .int .i64 ob, .slice pa pn pc] 49) = W := ⟨_, rfl⟩
        obtain ⟨y8, hy8⟩ : ∃ y, wr.heap.size = y := ⟨_, rfl⟩
        rw [hW4, hy8] at h4
        rw [hW4, hy8]
        have c0 : W4.cell? ⟨y8, 0, none⟩ = some (.int .i64 kd) := h4.b0.cell 0
        have c1 : W4.cell? ⟨y8, 1, none⟩ = some (.int .i64 oa) := h4.b0.cell 1
        have c2 : W4.cell? ⟨y8, 2, none⟩ = some (.int .i64 ob) := h4.b0.cell 2
        have c3 : W4.cell? ⟨y8, 3, none⟩ = some (.slice pa pn pc) := h4.b0.cell 3
        have H4 := Lib.hid h4
        have ks := small_any pa pn pc ps W4 (hP.lies.old (by decide) h4.bel) (fun h0 => by obtain ⟨b, off, e, _⟩ := hP.2.2.2.2 h0; exact ⟨b, off, e⟩) (by unfold maxLen; omega) (fun p hp => (hP.2.2.2.1 p hp).d)
        clear hb0 hcell ho hcc hP wk wa wb hN hxs hcs hrel hpl hbl x0 x1 x2 x3 h4 hW4 hy8 HR
        go_upto_if 48 with (go_at_call 17; refine ks.mono ?_; rintro e w5 ⟨bs, rfl, hsm, hb5⟩; have H5 := Lib.hid (H4.out.then_ hb5); have HSM := Lib.hid hsm; clear hb5 hsm ks)
        cases bs
        · go_wp2_with fail
          exact end_ret (t := 4) (v := .bool true) (by kernel_rfl) rfl rfl ⟨rfl, H5.out.bel⟩
        rw [show (!true) = false from rfl]
        have hs2 := HSM.out rfl
        have hn60 : pn ≤ 60 := hs2.1
        have HPS : Hid (∀ p ∈ ps, Wf p.f ∧ Wf p.t ∧ p.d.size ≤ 1000000) := Lib.hid fun p hp => ⟨(HPK.out.2.2.2.1 p hp).f, (HPK.out.2.2.2.1 p hp).t, by have := hs2.2 p hp; omega⟩
        have HL5 := Lib.hid (HPK.out.lies.old (by decide) H5.out.bel)
        clear hs2 HSM c0 c1 c2 c3
        have c0 : w5.cell? ⟨y8, 0, none⟩ = some (.int .i64 kd) := H5.out.b0.cell 0
        have c1 : w5.cell? ⟨y8, 1, none⟩ = some (.int .i64 oa) := H5.out.b0.cell 1
        have c2 : w5.cell? ⟨y8, 2, none⟩ = some (.int .i64 ob) := H5.out.b0.cell 2
        have c3 : w5.cell? ⟨y8, 3, none⟩ = some (.slice pa pn pc) := H5.out.b0.cell 3
        go_upto_block 2 with fail
        go_cut [9, 10] from 51 to 180 (fun x y wx => ∃ q : Bool, x = .bool q ∧ y = .bool q ∧ Hid (Mid w g r k y8 #[.int .i64 kd, .int .i64 oa, .int .i64 ob, .slice pa pn pc] wx))
        case first =>
          by_cases q1 : kd = 1
          · subst q1
            as_aux_lemma =>
              have kl := lent_any pa pn pc ps w5 HL5.out (by omega) hpn
              go_upto_region 23 with (go_at_call 18; refine kl.mono ?_; rintro e w6 ⟨b1, e1, cur, rfl, m1, m2, m3, m4, m5, m6⟩; have H6 := Lib.hid (H5.out.side_new m6 m4 m3); have M5 := Lib.hid m5; clear m6 m5 m4 m3 kl)
              clear c0 c1 c2 c3
              obtain ⟨hN, hxl, hcl, hrel⟩ := HREL.out
              obtain ⟨L, hL⟩ : ∃ L : Int, ((sendB C xs ps).length : Int) - (xs.length : Int) = L := ⟨_, rfl⟩
              have hpl : ps.length = pn := HPK.out.2.2.1
              have h6 := H6.out.drew
              have hA : 0 < pn → ∃ b off, pa = some ⟨b, off, none⟩ := fun h0 => by obtain ⟨b, off, e, _⟩ := HPK.out.2.2.2.2 h0; exact ⟨b, off, e⟩
              have HA := Lib.hid hA
              have kn := j_send (b := b1) h6 (List.mem_cons_self ..) pn e1 ps (lies_lent h6.b0 M5.out hpl) (by omega) (by omega) HPS.out
              rw [hL] at kn
              have HL := Lib.hid hL
              have HR := Lib.hid hrel
              have HX := Lib.hid (And.intro hN (And.intro hxl hcl))
              have HP := Lib.hid hpl
              have h6c := h6.b1.cell 3
              clear hA hL hrel hN hxl hcl hpl h6
              refine wp_region_held_drew (S := (fun W => W.cell? ⟨y8, 3, none⟩ = some (.slice pa pn pc))) (by kernel_rfl) h6c (fun hHeld => ?_)
              clear h6c
              refine wpAnyH_take (i := 0) (oi := ⟨some 68, _, _, _, _, _⟩) (v := ?_) rfl (by kernel_rfl) (by kernel_rfl) (by kernel_rfl) (fun _ _ _ h => h) (Or.inl ⟨by rfl, ?_⟩) (by assumption) ?_
              rotate_left
              · (intro w hSw; (try dsimp only at hSw); go_split_ands; go_simp); try (with_reducible rfl)
              try simp only [Act.put, List.setIfInBounds_toArray, List.set_cons_zero, List.set_cons_succ]
              refine wpAnyH_take (i := 1) (oi := ⟨some 69, _, _, _, _, _⟩) (v := ?_) rfl (by kernel_rfl) (by kernel_rfl) (by kernel_rfl) (fun _ _ _ h => h) (Or.inl ⟨by rfl, ?_⟩) (by assumption) ?_
              rotate_left
              · (intro w hSw; (try dsimp only at hSw); go_split_ands; go_simp); try (with_reducible rfl)
              try simp only [Act.put, List.setIfInBounds_toArray, List.set_cons_zero, List.set_cons_succ]
              refine wpAnyH_take (i := 3) (oi := ⟨some 71, _, _, _, _, _⟩) (v := ?_) rfl (by kernel_rfl) (by kernel_rfl) (by kernel_rfl) (fun _ _ _ h => h) (Or.inl ⟨by rfl, ?_⟩) (by assumption) ?_
              rotate_left
              · (intro w hSw; (try dsimp only at hSw); go_split_ands; go_simp); try (with_reducible rfl)
              try simp only [Act.put, List.setIfInBounds_toArray, List.set_cons_zero, List.set_cons_succ]
              refine wpAnyH_take (i := 4) (oi := ⟨some 72, _, _, _, _, _⟩) (v := ?_) rfl (by kernel_rfl) (by kernel_rfl) (by kernel_rfl) (fun _ _ _ h => h) (Or.inl ⟨by rfl, ?_⟩) (by assumption) ?_
              rotate_left
              · (intro w hSw; (try dsimp only at hSw); go_split_ands; go_simp); try (with_reducible rfl)
              try simp only [Act.put, List.setIfInBounds_toArray, List.set_cons_zero, List.set_cons_succ]
              refine wpAnyH_take (i := 5) (oi := ⟨some 73, _, _, _, _, _⟩) (v := ?_) rfl (by kernel_rfl) (by kernel_rfl) (by kernel_rfl) (fun _ _ _ h => h) (Or.inl ⟨by rfl, ?_⟩) (by assumption) ?_
              rotate_left
              · (intro w hSw; (try dsimp only at hSw); go_split_ands; go_simp); try (with_reducible rfl)
              try simp only [Act.put, List.setIfInBounds_toArray, List.set_cons_zero, List.set_cons_succ]
              refine wpAnyH_ready (rs := [2]) (by kernel_rfl) (by simp) ?_
              refine AllReadyH.cons (o := ⟨some 70, _, _, _, _, _⟩) rfl (fun K hK => ?_) AllReadyH.nil
              go_simp
              refine kn.mono ?_
              rintro e w7 ⟨rfl, h7⟩
              have H7 := Lib.hid h7
              clear h7 kn
              try (go_wp2_with fail)
              refine hK.out _ _ ?_ (fun hHeld => ?_)
              · exact H7.out.b1.cell 3
              clear hK K
              have kp := plain_any pa pn pc ps w7 (HPK.out.lies.old (by decide) H7.out.bel) HA.out hn60
              refine wpAnyH_ready (rs := [6]) (by kernel_rfl) (by simp) ?_
              refine AllReadyH.cons (o := ⟨some 74, _, _, _, _, _⟩) rfl (fun K hK => ?_) AllReadyH.nil
              go_simp
              refine kp.mono ?_
              rintro e w8 ⟨a8, c8, rfl, ho8, hb8⟩
              have H8 := Lib.hid (H7.out.then_ hb8)
              have HO := Lib.hid ho8
              clear hb8 ho8 kp
              try (go_wp2_with fail)
              refine hK.out _ _ ?_ (fun hHeld => ?_)
              · exact H8.out.b1.cell 3
              clear hK K
              have kr := k_send H8.out a8 pn c8 ps (Lies.of_own HO.out) (row_ne HO.out (k_lt H7.out)) (by omega) (row_cap HO.out) (by have := HX.out.2.1; omega) (by have := HX.out.2.2; omega)
              rw [← send_same HR.out, HL.out] at kr
              refine wpAnyH_ready (rs := [7]) (by kernel_rfl) (by simp) ?_
              refine AllReadyH.cons (o := ⟨some 75, _, _, _, _, _⟩) rfl (fun K hK => ?_) AllReadyH.nil
              go_simp
              refine kr.mono ?_
              rintro e w9 ⟨rfl, h9⟩
              have H9 := Lib.hid h9
              clear h9 kr
              try (go_wp2_with fail)
              refine hK.out _ _ ?_ (fun hHeld => ?_)
              · exact H9.out.b1.cell 3
              clear hK K
              refine wpAnyH_take (i := 8) (oi := ⟨some 76, _, _, _, _, _⟩) (v := ?_) rfl (by kernel_rfl) (by kernel_rfl) (by kernel_rfl) (fun _ _ _ h => h) (Or.inl ⟨by rfl, ?_⟩) (by assumption) ?_
              rotate_left
              · (intro w hSw; (try dsimp only at hSw); go_split_ands; go_simp); try (with_reducible rfl)
              try simp only [Act.put, List.setIfInBounds_toArray, List.set_cons_zero, List.set_cons_succ]
              refine wpAnyH_take (i := 9) (oi := ⟨some 77, _, _, _, _, _⟩) (v := ?_) rfl (by kernel_rfl) (by kernel_rfl) (by kernel_rfl) (fun _ _ _ h => h) (Or.inl ⟨by rfl, ?_⟩) (by assumption) ?_
              rotate_left
              · (intro w hSw; (try dsimp only at hSw); go_split_ands; go_simp); try (with_reducible rfl)
              try simp only [Act.put, List.setIfInBounds_toArray, List.set_cons_zero, List.set_cons_succ]
              refine wpAnyH_take (i := 10) (oi := ⟨some 78, _, _, _, _, _⟩) (v := ?_) rfl (by kernel_rfl) (by kernel_rfl) (by kernel_rfl) (fun _ _ _ h => h) (Or.inl ⟨by rfl, ?_⟩) (by assumption) ?_
              rotate_left
              · (intro w hSw; (try dsimp only at hSw); go_split_ands; go_simp); try (with_reducible rfl)
              try simp only [Act.put, List.setIfInBounds_toArray, List.set_cons_zero, List.set_cons_succ]
              refine wpAnyH_take (i := 11) (oi := ⟨some 79, _, _, _, _, _⟩) (v := ?_) rfl (by kernel_rfl) (by kernel_rfl) (by kernel_rfl) (fun _ _ _ h => h) (Or.inl ⟨by rfl, ?_⟩) (by assumption) ?_
              rotate_left
              · (intro w hSw; (try dsimp only at hSw); go_split_ands; go_simp); try (with_reducible rfl)
              try simp only [Act.put, List.setIfInBounds_toArray, List.set_cons_zero, List.set_cons_succ]
              refine wpAnyH_take (i := 12) (oi := ⟨some 80, _, _, _, _, _⟩) (v := ?_) rfl (by kernel_rfl) (by kernel_rfl) (by kernel_rfl) (fun _ _ _ h => h) (Or.inl ⟨by rfl, ?_⟩) (by assumption) ?_
              rotate_left
              · (intro w hSw; (try dsimp only at hSw); go_split_ands; go_simp); try (with_reducible rfl)
              try simp only [Act.put, List.setIfInBounds_toArray, List.set_cons_zero, List.set_cons_succ]
              have ks := stays_any w9 b1 pn e1 cur pa pc ps HP.out H9.out.b0 M5.out (HPK.out.lies.old (by decide) H9.out.bel) HA.out (by omega) m1 m2 hpn
              refine wpAnyH_ready (rs := [13]) (by kernel_rfl) (by simp) ?_
              refine AllReadyH.cons (o := ⟨some 81, _, _, _, _, _⟩) rfl (fun K hK => ?_) AllReadyH.nil
              go_simp
              refine ks.mono ?_
              rintro e w10 ⟨rfl, hb⟩
              have H10 := Lib.hid (H9.out.then_ hb)
              clear hb ks
              try (go_wp2_with fail)
              refine hK.out _ _ ?_ (fun hHeld => ?_)
              · exact H10.out.b1.cell 3
              clear hK K
              refine wpAnyH_take (i := 14) (oi := ⟨some 82, _, _, _, _, _⟩) (v := ?_) rfl (by kernel_rfl) (by kernel_rfl) (by kernel_rfl) (fun _ _ _ h => h) (Or.inl ⟨by rfl, ?_⟩) (by assumption) ?_
              rotate_left
              · (intro w hSw; (try dsimp only at hSw); go_split_ands; go_simp); try (with_reducible rfl)
              try simp only [Act.put, List.setIfInBounds_toArray, List.set_cons_zero, List.set_cons_succ]
              refine wpAnyH_take (i := 15) (oi := ⟨some 83, _, _, _, _, _⟩) (v := ?_) rfl (by kernel_rfl) (by kernel_rfl) (by kernel_rfl) (fun _ _ _ h => h) (Or.inl ⟨by rfl, ?_⟩) (by assumption) ?_
              rotate_left
              · (intro w hSw; (try dsimp only at hSw); go_split_ands; go_simp); try (with_reducible rfl)
              try simp only [Act.put, List.setIfInBounds_toArray, List.set_cons_zero, List.set_cons_succ]
              refine wpAnyH_done (by kernel_rfl) ?_ _
              go_wp2_with fail
              go_meet
              exact ⟨false, rfl, rfl, Lib.hid (mid_of HREL.out (send_len2 HR.out ps xs HX.out.2.1) H10.out.pop)⟩
          have e1 : (kd == 1) = false := by simp [q1]
          by_cases q2 : kd = 2
          · subst q2
            as_aux_lemma =>
              obtain ⟨p, hp⟩ : ∃ p, getB xs oa = p := ⟨_, rfl⟩
              obtain ⟨i, hi⟩ : ∃ i, inB xs oa = i := ⟨_, rfl⟩
              have kt := j_take H5.out oa
              rw [hp, hi] at kt
              obtain ⟨pf, pt, pd⟩ := p
              dsimp only [agg] at kt
              have HG := Lib.hid (And.intro hp hi)
              clear hp hi
              go_upto_region 27 with (go_at_call 13; refine kt.mono ?_; rintro e w6 ⟨rfl, h6⟩; have H6 := Lib.hid h6; clear h6 kt)
              clear c0 c1 c2 c3
              have h7 := H6.out.side_new (belowNew (belowSame w6) (.cells #[.int .i64 pf, .int .i64 pt, .string pd] 28)) (Blk.new w6 28 #[.int .i64 pf, .int .i64 pt, .string pd]) (Nat.le_refl _)
              obtain ⟨W7, hW⟩ : ∃ W, w6.alloc (.cells #[.int .i64 pf, .int .i64 pt, .string pd] 28) = W := ⟨_, rfl⟩
              obtain ⟨y12, hy⟩ : ∃ y, w6.heap.size = y := ⟨_, rfl⟩
              rw [hW, hy] at h7
              rw [hW, hy]
              clear hW hy
              have c0 : W7.cell? ⟨y8, 0, none⟩ = some (.int .i64 2) := h7.b1.cell 0
              have c1 : W7.cell? ⟨y8, 1, none⟩ = some (.int .i64 oa) := h7.b1.cell 1
              have c2 : W7.cell? ⟨y8, 2, none⟩ = some (.int .i64 ob) := h7.b1.cell 2
              have c3 : W7.cell? ⟨y8, 3, none⟩ = some (.slice pa pn pc) := h7.b1.cell 3
              have kt := k_take h7 oa (by have := HREL.out.2.1; omega)
              rw [HG.out.1, HG.out.2] at kt
              dsimp only [agg] at kt
              clear h7
              go_upto_region 28 with (go_at_call 22; refine kt.mono ?_; rintro e w8 ⟨rfl, h8⟩; have H8 := Lib.hid h8; clear h8 kt)
              clear c0 c1 c2 c3
              have h9 := H8.out.side_new (belowNew (belowSame w8) (.cells #[.int .i64 pf, .int .i64 pt, .string pd] 55)) (Blk.new w8 55 #[.int .i64 pf, .int .i64 pt, .string pd]) (Nat.le_refl _)
              obtain ⟨W9, hW⟩ : ∃ W, w8.alloc (.cells #[.int .i64 pf, .int .i64 pt, .string pd] 55) = W := ⟨_, rfl⟩
              obtain ⟨y14, hy⟩ : ∃ y, w8.heap.size = y := ⟨_, rfl⟩
              rw [hW, hy] at h9
              rw [hW, hy]
              clear hW hy
              have d0 : W9.cell? ⟨y14, 0, none⟩ = some (.int .i64 pf) := h9.b0.cell 0
              have d1 : W9.cell? ⟨y14, 1, none⟩ = some (.int .i64 pt) := h9.b0.cell 1
              have d2 : W9.cell? ⟨y14, 2, none⟩ = some (.string pd) := h9.b0.cell 2
              have f0 : W9.cell? ⟨y12, 0, none⟩ = some (.int .i64 pf) := h9.b1.cell 0
              have f1 : W9.cell? ⟨y12, 1, none⟩ = some (.int .i64 pt) := h9.b1.cell 1
              have f2 : W9.cell? ⟨y12, 2, none⟩ = some (.string pd) := h9.b1.cell 2
              have kq := same_any ⟨pf, pt, pd⟩ ⟨pf, pt, pd⟩ W9
              rw [sameB_self] at kq
              dsimp only [agg] at kq
              have H9 := Lib.hid h9
              clear h9
              go_wp2_with (go_at_call 23; refine kq.mono ?_; rintro e w10 ⟨rfl, hb⟩; have H10 := Lib.hid (H9.out.then_ hb); clear hb kq)
              go_wp2_with fail
              go_meet
              exact ⟨false, rfl, rfl, Lib.hid (mid_of HREL.out (by have := HREL.out.2.1; have := take_len xs oa; omega) H10.out.pop.pop)⟩
          have e2 : (kd == 2) = false := by simp [q2]
          by_cases q3 : kd = 3
          · subst q3
            as_aux_lemma =>
              obtain ⟨i, hi⟩ : ∃ i, inB xs oa = i := ⟨_, rfl⟩
              have kt := k_take H5.out oa (by have := HREL.out.2.1; omega)
              obtain ⟨p, hp⟩ : ∃ p, getB xs oa = p := ⟨_, rfl⟩
              rw [hp, hi] at kt
              obtain ⟨pf, pt, pd⟩ := p
              dsimp only [agg] at kt
              have HG := Lib.hid (And.intro hp hi)
              clear hp hi
              go_upto_region 32 with (go_at_call 22; refine kt.mono ?_; rintro e w6 ⟨rfl, h6⟩; have H6 := Lib.hid h6; clear h6 kt)
              clear c0 c1 c2 c3
              have c0 : w6.cell? ⟨y8, 0, none⟩ = some (.int .i64 3) := H6.out.b0.cell 0
              have c1 : w6.cell? ⟨y8, 1, none⟩ = some (.int .i64 oa) := H6.out.b0.cell 1
              have c2 : w6.cell? ⟨y8, 2, none⟩ = some (.int .i64 ob) := H6.out.b0.cell 2
              have c3 : w6.cell? ⟨y8, 3, none⟩ = some (.slice pa pn pc) := H6.out.b0.cell 3
              have kt := j_drop H6.out oa
              rw [HG.out.2] at kt
              go_wp2_with (go_at_call 11; refine kt.mono ?_; rintro e w7 ⟨rfl, h7⟩; have H7 := Lib.hid h7; clear h7 kt)
              go_meet
              exact ⟨i, rfl, rfl, Lib.hid (mid_of HREL.out (by have := HREL.out.2.1; have := take_len xs oa; omega) H7.out)⟩
          have e3 : (kd == 3) = false := by simp [q3]
          by_cases q4 : kd = 4
          · subst q4
            as_aux_lemma =>
              go_upto_region 34 with fail
              obtain ⟨i, hi⟩ : ∃ i, canD xs oa = i := ⟨_, rfl⟩
              have h5 := H5.out.drew
              have hS := show (w5.drew.cell? ⟨y8, 0, none⟩ = some (.int .i64 4) ∧ w5.drew.cell? ⟨y8, 1, none⟩ = some (.int .i64 oa) ∧ w5.drew.cell? ⟨y8, 2, none⟩ = some (.int .i64 ob) ∧ w5.drew.cell? ⟨y8, 3, none⟩ = some (.slice pa pn pc)) from ⟨h5.b0.cell 0, h5.b0.cell 1, h5.b0.cell 2, h5.b0.cell 3⟩
              have kj := j_double h5 oa
              have HD := Lib.hid h5
              rw [hi] at kj
              clear h5
              refine wp_region_held_drew (S := (fun W => W.cell? ⟨y8, 0, none⟩ = some (.int .i64 4) ∧ W.cell? ⟨y8, 1, none⟩ = some (.int .i64 oa) ∧ W.cell? ⟨y8, 2, none⟩ = some (.int .i64 ob) ∧ W.cell? ⟨y8, 3, none⟩ = some (.slice pa pn pc))) (by kernel_rfl) hS (fun hHeld => ?_)
              clear hS
              refine wpAnyH_take (i := 0) (oi := ⟨some 124, _, _, _, _, _⟩) (v := ?_) rfl (by kernel_rfl) (by kernel_rfl) (by kernel_rfl) (fun _ _ _ h => h) (Or.inl ⟨by rfl, ?_⟩) (by assumption) ?_
              rotate_left
              · (intro w hSw; (try dsimp only at hSw); go_split_ands; go_simp); try (with_reducible rfl)
              try simp only [Act.put, List.setIfInBounds_toArray, List.set_cons_zero, List.set_cons_succ]
              refine wpAnyH_take (i := 1) (oi := ⟨some 125, _, _, _, _, _⟩) (v := ?_) rfl (by kernel_rfl) (by kernel_rfl) (by kernel_rfl) (fun _ _ _ h => h) (Or.inl ⟨by rfl, ?_⟩) (by assumption) ?_
              rotate_left
              · (intro w hSw; (try dsimp only at hSw); go_split_ands; go_simp); try (with_reducible rfl)
              try simp only [Act.put, List.setIfInBounds_toArray, List.set_cons_zero, List.set_cons_succ]
              refine wpAnyH_take (i := 2) (oi := ⟨some 126, _, _, _, _, _⟩) (v := ?_) rfl (by kernel_rfl) (by kernel_rfl) (by kernel_rfl) (fun _ _ _ h => h) (Or.inl ⟨by rfl, ?_⟩) (by assumption) ?_
              rotate_left
              · (intro w hSw; (try dsimp only at hSw); go_split_ands; go_simp); try (with_reducible rfl)
              try simp only [Act.put, List.setIfInBounds_toArray, List.set_cons_zero, List.set_cons_succ]
              refine wpAnyH_take (i := 4) (oi := ⟨some 128, _, _, _, _, _⟩) (v := ?_) rfl (by kernel_rfl) (by kernel_rfl) (by kernel_rfl) (fun _ _ _ h => h) (Or.inl ⟨by rfl, ?_⟩) (by assumption) ?_
              rotate_left
              · (intro w hSw; (try dsimp only at hSw); go_split_ands; go_simp); try (with_reducible rfl)
              try simp only [Act.put, List.setIfInBounds_toArray, List.set_cons_zero, List.set_cons_succ]
              refine wpAnyH_take (i := 5) (oi := ⟨some 129, _, _, _, _, _⟩) (v := ?_) rfl (by kernel_rfl) (by kernel_rfl) (by kernel_rfl) (fun _ _ _ h => h) (Or.inl ⟨by rfl, ?_⟩) (by assumption) ?_
              rotate_left
              · (intro w hSw; (try dsimp only at hSw); go_split_ands; go_simp); try (with_reducible rfl)
              try simp only [Act.put, List.setIfInBounds_toArray, List.set_cons_zero, List.set_cons_succ]
              refine wpAnyH_take (i := 6) (oi := ⟨some 130, _, _, _, _, _⟩) (v := ?_) rfl (by kernel_rfl) (by kernel_rfl) (by kernel_rfl) (fun _ _ _ h => h) (Or.inl ⟨by rfl, ?_⟩) (by assumption) ?_
              rotate_left
              · (intro w hSw; (try dsimp only at hSw); go_split_ands; go_simp); try (with_reducible rfl)
              try simp only [Act.put, List.setIfInBounds_toArray, List.set_cons_zero, List.set_cons_succ]
              refine wpAnyH_ready (rs := [3]) (by kernel_rfl) (by simp) ?_
              refine AllReadyH.cons (o := ⟨some 127, _, _, _, _, _⟩) rfl (fun K hK => ?_) AllReadyH.nil
              go_simp
              refine kj.mono ?_
              rintro e w6 ⟨rfl, h6⟩
              have H6 := Lib.hid h6
              clear h6 kj
              try (go_wp2_with fail)
              refine hK.out _ _ ?_ (fun hHeld => ?_)
              · exact ⟨H6.out.b0.cell 0, H6.out.b0.cell 1, H6.out.b0.cell 2, H6.out.b0.cell 3⟩
              clear hK K
              have kr := k_double H6.out oa (by have := HREL.out.2.1; omega)
              rw [hi] at kr
              refine wpAnyH_ready (rs := [7]) (by kernel_rfl) (by simp) ?_
              refine AllReadyH.cons (o := ⟨some 131, _, _, _, _, _⟩) rfl (fun K hK => ?_) AllReadyH.nil
              go_simp
              refine kr.mono ?_
              rintro e w7 ⟨rfl, h7⟩
              have H7 := Lib.hid h7
              clear h7 kr
              try (go_wp2_with fail)
              refine hK.out _ _ ?_ (fun hHeld => ?_)
              · exact ⟨H7.out.b0.cell 0, H7.out.b0.cell 1, H7.out.b0.cell 2, H7.out.b0.cell 3⟩
              clear hK K
              refine wpAnyH_take (i := 8) (oi := ⟨some 9, _, _, _, _, _⟩) (v := ?_) rfl (by kernel_rfl) (by kernel_rfl) (by kernel_rfl) (fun _ _ _ h => h) (Or.inl ⟨by rfl, ?_⟩) (by assumption) ?_
              rotate_left
              · (intro w hSw; (try dsimp only at hSw); go_split_ands; go_simp); try (with_reducible rfl)
              try simp only [Act.put, List.setIfInBounds_toArray, List.set_cons_zero, List.set_cons_succ]
              refine wpAnyH_take (i := 9) (oi := ⟨some 10, _, _, _, _, _⟩) (v := ?_) rfl (by kernel_rfl) (by kernel_rfl) (by kernel_rfl) (fun _ _ _ h => h) (Or.inl ⟨by rfl, ?_⟩) (by assumption) ?_
              rotate_left
              · (intro w hSw; (try dsimp only at hSw); go_split_ands; go_simp); try (with_reducible rfl)
              try simp only [Act.put, List.setIfInBounds_toArray, List.set_cons_zero, List.set_cons_succ]
              refine wpAnyH_done (by kernel_rfl) ?_ _
              go_wp2_with fail
              go_meet
              exact ⟨i, rfl, rfl, Lib.hid (mid_of HREL.out (double_len xs oa HREL.out.2.1) H7.out)⟩
          have e4 : (kd == 4) = false := by simp [q4]
          by_cases q5 : kd = 5
          · subst q5
            as_aux_lemma =>
              go_upto_region 36 with fail
              obtain ⟨i, hi⟩ : ∃ i, canS xs oa ob = i := ⟨_, rfl⟩
              have h5 := H5.out.drew
              have hS := show (w5.drew.cell? ⟨y8, 0, none⟩ = some (.int .i64 5) ∧ w5.drew.cell? ⟨y8, 1, none⟩ = some (.int .i64 oa) ∧ w5.drew.cell? ⟨y8, 2, none⟩ = some (.int .i64 ob) ∧ w5.drew.cell? ⟨y8, 3, none⟩ = some (.slice pa pn pc)) from ⟨h5.b0.cell 0, h5.b0.cell 1, h5.b0.cell 2, h5.b0.cell 3⟩
              have kj := j_swap h5 oa ob
              have HD := Lib.hid h5
              rw [hi] at kj
              clear h5
              refine wp_region_held_drew (S := (fun W => W.cell? ⟨y8, 0, none⟩ = some (.int .i64 5) ∧ W.cell? ⟨y8, 1, none⟩ = some (.int .i64 oa) ∧ W.cell? ⟨y8, 2, none⟩ = some (.int .i64 ob) ∧ W.cell? ⟨y8, 3, none⟩ = some (.slice pa pn pc))) (by kernel_rfl) hS (fun hHeld => ?_)
              clear hS
              refine wpAnyH_take (i := 0) (oi := ⟨some 134, _, _, _, _, _⟩) (v := ?_) rfl (by kernel_rfl) (by kernel_rfl) (by kernel_rfl) (fun _ _ _ h => h) (Or.inl ⟨by rfl, ?_⟩) (by assumption) ?_
              rotate_left
              · (intro w hSw; (try dsimp only at hSw); go_split_ands; go_simp); try (with_reducible rfl)
              try simp only [Act.put, List.setIfInBounds_toArray, List.set_cons_zero, List.set_cons_succ]
              refine wpAnyH_take (i := 1) (oi := ⟨some 135, _, _, _, _, _⟩) (v := ?_) rfl (by kernel_rfl) (by kernel_rfl) (by kernel_rfl) (fun _ _ _ h => h) (Or.inl ⟨by rfl, ?_⟩) (by assumption) ?_
              rotate_left
              · (intro w hSw; (try dsimp only at hSw); go_split_ands; go_simp); try (with_reducible rfl)
              try simp only [Act.put, List.setIfInBounds_toArray, List.set_cons_zero, List.set_cons_succ]
              refine wpAnyH_take (i := 2) (oi := ⟨some 136, _, _, _, _, _⟩) (v := ?_) rfl (by kernel_rfl) (by kernel_rfl) (by kernel_rfl) (fun _ _ _ h => h) (Or.inl ⟨by rfl, ?_⟩) (by assumption) ?_
              rotate_left
              · (intro w hSw; (try dsimp only at hSw); go_split_ands; go_simp); try (with_reducible rfl)
              try simp only [Act.put, List.setIfInBounds_toArray, List.set_cons_zero, List.set_cons_succ]
              refine wpAnyH_take (i := 3) (oi := ⟨some 137, _, _, _, _, _⟩) (v := ?_) rfl (by kernel_rfl) (by kernel_rfl) (by kernel_rfl) (fun _ _ _ h => h) (Or.inl ⟨by rfl, ?_⟩) (by assumption) ?_
              rotate_left
              · (intro w hSw; (try dsimp only at hSw); go_split_ands; go_simp); try (with_reducible rfl)
              try simp only [Act.put, List.setIfInBounds_toArray, List.set_cons_zero, List.set_cons_succ]
              refine wpAnyH_take (i := 4) (oi := ⟨some 138, _, _, _, _, _⟩) (v := ?_) rfl (by kernel_rfl) (by kernel_rfl) (by kernel_rfl) (fun _ _ _ h => h) (Or.inl ⟨by rfl, ?_⟩) (by assumption) ?_
              rotate_left
              · (intro w hSw; (try dsimp only at hSw); go_split_ands; go_simp); try (with_reducible rfl)
              try simp only [Act.put, List.setIfInBounds_toArray, List.set_cons_zero, List.set_cons_succ]
              refine wpAnyH_take (i := 6) (oi := ⟨some 140, _, _, _, _, _⟩) (v := ?_) rfl (by kernel_rfl) (by kernel_rfl) (by kernel_rfl) (fun _ _ _ h => h) (Or.inl ⟨by rfl, ?_⟩) (by assumption) ?_
              rotate_left
              · (intro w hSw; (try dsimp only at hSw); go_split_ands; go_simp); try (with_reducible rfl)
              try simp only [Act.put, List.setIfInBounds_toArray, List.set_cons_zero, List.set_cons_succ]
              refine wpAnyH_take (i := 7) (oi := ⟨some 141, _, _, _, _, _⟩) (v := ?_) rfl (by kernel_rfl) (by kernel_rfl) (by kernel_rfl) (fun _ _ _ h => h) (Or.inl ⟨by rfl, ?_⟩) (by assumption) ?_
              rotate_left
              · (intro w hSw; (try dsimp only at hSw); go_split_ands; go_simp); try (with_reducible rfl)
              try simp only [Act.put, List.setIfInBounds_toArray, List.set_cons_zero, List.set_cons_succ]
              refine wpAnyH_take (i := 8) (oi := ⟨some 142, _, _, _, _, _⟩) (v := ?_) rfl (by kernel_rfl) (by kernel_rfl) (by kernel_rfl) (fun _ _ _ h => h) (Or.inl ⟨by rfl, ?_⟩) (by assumption) ?_
              rotate_left
              · (intro w hSw; (try dsimp only at hSw); go_split_ands; go_simp); try (with_reducible rfl)
              try simp only [Act.put, List.setIfInBounds_toArray, List.set_cons_zero, List.set_cons_succ]
              refine wpAnyH_take (i := 9) (oi := ⟨some 143, _, _, _, _, _⟩) (v := ?_) rfl (by kernel_rfl) (by kernel_rfl) (by kernel_rfl) (fun _ _ _ h => h) (Or.inl ⟨by rfl, ?_⟩) (by assumption) ?_
              rotate_left
              · (intro w hSw; (try dsimp only at hSw); go_split_ands; go_simp); try (with_reducible rfl)
              try simp only [Act.put, List.setIfInBounds_toArray, List.set_cons_zero, List.set_cons_succ]
              refine wpAnyH_take (i := 10) (oi := ⟨some 144, _, _, _, _, _⟩) (v := ?_) rfl (by kernel_rfl) (by kernel_rfl) (by kernel_rfl) (fun _ _ _ h => h) (Or.inl ⟨by rfl, ?_⟩) (by assumption) ?_
              rotate_left
              · (intro w hSw; (try dsimp only at hSw); go_split_ands; go_simp); try (with_reducible rfl)
              try simp only [Act.put, List.setIfInBounds_toArray, List.set_cons_zero, List.set_cons_succ]
              refine wpAnyH_ready (rs := [5]) (by kernel_rfl) (by simp) ?_
              refine AllReadyH.cons (o := ⟨some 139, _, _, _, _, _⟩) rfl (fun K hK => ?_) AllReadyH.nil
              go_simp
              refine kj.mono ?_
              rintro e w6 ⟨rfl, h6⟩
              have H6 := Lib.hid h6
              clear h6 kj
              try (go_wp2_with fail)
              refine hK.out _ _ ?_ (fun hHeld => ?_)
              · exact ⟨H6.out.b0.cell 0, H6.out.b0.cell 1, H6.out.b0.cell 2, H6.out.b0.cell 3⟩
              clear hK K
              have kr := k_swap H6.out oa ob (by have := HREL.out.2.1; omega)
              rw [hi] at kr
              refine wpAnyH_ready (rs := [11]) (by kernel_rfl) (by simp) ?_
              refine AllReadyH.cons (o := ⟨some 145, _, _, _, _, _⟩) rfl (fun K hK => ?_) AllReadyH.nil
              go_simp
              refine kr.mono ?_
              rintro e w7 ⟨rfl, h7⟩
              have H7 := Lib.hid h7
              clear h7 kr
              try (go_wp2_with fail)
              refine hK.out _ _ ?_ (fun hHeld => ?_)
              · exact ⟨H7.out.b0.cell 0, H7.out.b0.cell 1, H7.out.b0.cell 2, H7.out.b0.cell 3⟩
              clear hK K
              refine wpAnyH_take (i := 12) (oi := ⟨some 9, _, _, _, _, _⟩) (v := ?_) rfl (by kernel_rfl) (by kernel_rfl) (by kernel_rfl) (fun _ _ _ h => h) (Or.inl ⟨by rfl, ?_⟩) (by assumption) ?_
              rotate_left
              · (intro w hSw; (try dsimp only at hSw); go_split_ands; go_simp); try (with_reducible rfl)
              try simp only [Act.put, List.setIfInBounds_toArray, List.set_cons_zero, List.set_cons_succ]
              refine wpAnyH_take (i := 13) (oi := ⟨some 10, _, _, _, _, _⟩) (v := ?_) rfl (by kernel_rfl) (by kernel_rfl) (by kernel_rfl) (fun _ _ _ h => h) (Or.inl ⟨by rfl, ?_⟩) (by assumption) ?_
              rotate_left
              · (intro w hSw; (try dsimp only at hSw); go_split_ands; go_simp); try (with_reducible rfl)
              try simp only [Act.put, List.setIfInBounds_toArray, List.set_cons_zero, List.set_cons_succ]
              refine wpAnyH_done (by kernel_rfl) ?_ _
              go_wp2_with fail
              go_meet
              exact ⟨i, rfl, rfl, Lib.hid (mid_of HREL.out (by rw [swap_len]; exact HREL.out.2.1) H7.out)⟩
          have e5 : (kd == 5) = false := by simp [q5]
          by_cases q6 : kd = 6
          · subst q6
            as_aux_lemma =>
              have kt := j_cut H5.out oa ob HW.out.2.1 HW.out.2.2 (by have := HREL.out.1; omega) true
              go_upto_region 40 with (go_at_call 15; refine kt.mono ?_; rintro e w6 ⟨rfl, h6⟩; have H6 := Lib.hid h6; clear h6 kt)
              clear c0 c1 c2 c3
              have c0 : w6.cell? ⟨y8, 0, none⟩ = some (.int .i64 6) := H6.out.b0.cell 0
              have c1 : w6.cell? ⟨y8, 1, none⟩ = some (.int .i64 oa) := H6.out.b0.cell 1
              have c2 : w6.cell? ⟨y8, 2, none⟩ = some (.int .i64 ob) := H6.out.b0.cell 2
              have c3 : w6.cell? ⟨y8, 3, none⟩ = some (.slice pa pn pc) := H6.out.b0.cell 3
              have kt := k_cut H6.out oa ob true (by have := HREL.out.2.2.1; omega)
              go_wp2_with (go_at_call 26; refine kt.mono ?_; rintro e w7 ⟨rfl, h7⟩; have H7 := Lib.hid h7; clear h7 kt)
              go_meet
              exact ⟨false, rfl, rfl, Lib.hid ⟨N + 1, xs, _, _, by have := HREL.out.1; omega, HREL.out.2.1, by have := HREL.out.2.2.1; have := cutL_len cs oa ob true; omega, rel_cut HREL.out.2.2.2 oa ob true, H7.out⟩⟩
          have e6 : (kd == 6) = false := by simp [q6]
          by_cases q7 : kd = 7
          · subst q7
            as_aux_lemma =>
              have kt := j_cut H5.out oa ob HW.out.2.1 HW.out.2.2 (by have := HREL.out.1; omega) false
              go_upto_region 40 with (go_at_call 15; refine kt.mono ?_; rintro e w6 ⟨rfl, h6⟩; have H6 := Lib.hid h6; clear h6 kt)
              clear c0 c1 c2 c3
              have c0 : w6.cell? ⟨y8, 0, none⟩ = some (.int .i64 7) := H6.out.b0.cell 0
              have c1 : w6.cell? ⟨y8, 1, none⟩ = some (.int .i64 oa) := H6.out.b0.cell 1
              have c2 : w6.cell? ⟨y8, 2, none⟩ = some (.int .i64 ob) := H6.out.b0.cell 2
              have c3 : w6.cell? ⟨y8, 3, none⟩ = some (.slice pa pn pc) := H6.out.b0.cell 3
              have kt := k_cut H6.out oa ob false (by have := HREL.out.2.2.1; omega)
              go_wp2_with (go_at_call 26; refine kt.mono ?_; rintro e w7 ⟨rfl, h7⟩; have H7 := Lib.hid h7; clear h7 kt)
              go_meet
              exact ⟨false, rfl, rfl, Lib.hid ⟨N + 1, xs, _, _, by have := HREL.out.1; omega, HREL.out.2.1, by have := HREL.out.2.2.1; have := cutL_len cs oa ob false; omega, rel_cut HREL.out.2.2.2 oa ob false, H7.out⟩⟩
          have e7 : (kd == 7) = false := by simp [q7]
          by_cases q8 : kd = 8
          · subst q8
            as_aux_lemma =>
              obtain ⟨aL, cL, aC, cC, hR⟩ := H5.out.refs
              have d0 : w5.cell? ⟨r, 0, none⟩ = some (.slice aL xs.length cL) := hR.blk.cell 0
              have d1 : w5.frozen? ⟨r, 0, none⟩ = false := hR.blk.frozen 0
              obtain ⟨M, hM⟩ : ∃ M, xs.length = M := ⟨_, rfl⟩
              have kt := j_clear (k_clear H5.out)
              rw [hM] at d0 kt
              clear hR
              go_upto_region 44 with fail
              go_wp2_with (go_at_call 16; refine kt.mono ?_; rintro e w7 ⟨rfl, h7⟩; have H7 := Lib.hid h7; clear h7 kt)
              go_meet
              exact ⟨true, rfl, rfl, Lib.hid (mid_of HREL.out (by simp) H7.out)⟩
          have e8 : (kd == 8) = false := by simp [q8]
          as_aux_lemma =>
            go_wp2_with fail
            go_loopw [17] (fun i wr => ∃ j : Nat, j ≤ 890 ∧ i = .int .i64 (j : Int) ∧ Hid (Grow w g r N C cs y8 #[.int .i64 kd, .int .i64 oa, .int .i64 ob, .slice pa pn pc] wr)) (fun i _ => 890 - (intOf i).toNat)
            case atStart => exact ⟨0, by omega, rfl, Lib.hid ⟨xs, HREL.out.2.1, H5.out⟩⟩
            case round =>
              obtain ⟨j, hj, rfl, HG⟩ := hrel
              by_cases hj2 : j < 890
              · obtain ⟨xs2, hx2, hp2⟩ := HG.out
                have HX2 := Lib.hid hx2
                have H6 := Lib.hid hp2
                clear hx2 hp2
                go_upto_region 20 with (go_at_call 9; refine (grow_send H6.out).mono ?_; rintro e w7 ⟨rfl, h7⟩; have H7 := Lib.hid h7; clear h7)
                go_wp2_with (go_at_call 19; refine (grow_rsend H7.out (by have := HX2.out; omega) (by have := HREL.out.2.2.1; omega)).mono ?_; rintro e w8 ⟨rfl, h8⟩; have H8 := Lib.hid h8; clear h8)
                go_roundw
                case rel => exact ⟨j + 1, by omega, by go_num, Lib.hid (grow_more HREL.out.2.2.2 HX2.out H8.out)⟩
                case measure => simp [intOf]; omega
              · go_wp2_with fail
                go_meet
                exact ⟨false, rfl, rfl, Lib.hid (grow_mid HREL.out HG.out)⟩
        case rest =>
          obtain ⟨q, rfl, rfl, HM⟩ := hcut
          clear c0 c1 c2 c3 H5 HL5 HPS HREL
          obtain ⟨N2, xs2, C2, cs2, m1, m2, m3, m4, m5⟩ := HM.out
          clear HM
          cases hin : inB xs2 oa
          · as_aux_lemma =>
              have kp := j_peek m5 oa
              rw [out_get hin, hin] at kp
              dsimp only [agg, pk0] at kp
              have c1 : wc.cell? ⟨y8, 1, none⟩ = some (.int .i64 oa) := m5.b0.cell 1
              clear m5
              go_upto_region 46 with (go_at_call 27; refine kp.mono ?_; rintro e w6 ⟨rfl, h6⟩; have H6 := Lib.hid h6; clear h6 kp)
              clear c1
              have h7 := H6.out.side_new (belowNew (belowSame w6) (.cells #[.int .i64 0, .int .i64 0, .string ByteArray.empty] 28)) (Blk.new w6 28 #[.int .i64 0, .int .i64 0, .string ByteArray.empty]) (Nat.le_refl _)
              obtain ⟨W7, hW⟩ : ∃ W, w6.alloc (.cells #[.int .i64 0, .int .i64 0, .string ByteArray.empty] 28) = W := ⟨_, rfl⟩
              obtain ⟨y18, hy⟩ : ∃ y, w6.heap.size = y := ⟨_, rfl⟩
              rw [hW, hy] at h7
              rw [hW, hy]
              clear hW hy
              obtain ⟨aL, cL, aC, cC, h7⟩ := h7.fix
              have hcap := h7.caps
              unfold maxLen at hcap
              obtain ⟨M, hM⟩ : ∃ M, xs2.length = M := ⟨_, rfl⟩
              have HG := Lib.hid hin
              clear hin
              have h7d := h7.drew
              have HF := Lib.hid h7d
              clear h7
              have hS : W7.drew.cell? ⟨r, 0, none⟩ = some (.slice aL M cL) ∧ W7.drew.cell? ⟨y8, 1, none⟩ = some (.int .i64 oa) ∧ W7.drew.cell? ⟨y18, 0, none⟩ = some (.int .i64 0) ∧ W7.drew.cell? ⟨y18, 1, none⟩ = some (.int .i64 0) ∧ W7.drew.cell? ⟨y18, 2, none⟩ = some (.string ByteArray.empty) := by
                exact ⟨hM ▸ h7d.cell, h7d.b1.cell 1, h7d.b0.cell 0, h7d.b0.cell 1, h7d.b0.cell 2⟩
              clear h7d
              refine wp_region_held_drew (S := (fun W => W.cell? ⟨r, 0, none⟩ = some (.slice aL M cL) ∧ W.cell? ⟨y8, 1, none⟩ = some (.int .i64 oa) ∧ W.cell? ⟨y18, 0, none⟩ = some (.int .i64 0) ∧ W.cell? ⟨y18, 1, none⟩ = some (.int .i64 0) ∧ W.cell? ⟨y18, 2, none⟩ = some (.string ByteArray.empty))) (by kernel_rfl) hS (fun hHeld => ?_)
              clear hS
              refine wpAnyH_take (i := 0) (oi := ⟨some 188, _, _, _, _, _⟩) (v := ?_) rfl (by kernel_rfl) (by kernel_rfl) (by kernel_rfl) (fun _ _ _ h => h) (Or.inl ⟨by rfl, ?_⟩) (by assumption) ?_
              rotate_left
              · (intro w hSw; (try dsimp only at hSw); go_split_ands; go_simp); try (with_reducible rfl)
              try simp only [Act.put, List.setIfInBounds_toArray, List.set_cons_zero, List.set_cons_succ]
              refine wpAnyH_take (i := 1) (oi := ⟨some 189, _, _, _, _, _⟩) (v := ?_) rfl (by kernel_rfl) (by kernel_rfl) (by kernel_rfl) (fun _ _ _ h => h) (Or.inl ⟨by rfl, ?_⟩) (by assumption) ?_
              rotate_left
              · (intro w hSw; (try dsimp only at hSw); go_split_ands; go_simp); try (with_reducible rfl)
              try simp only [Act.put, List.setIfInBounds_toArray, List.set_cons_zero, List.set_cons_succ]
              refine wpAnyH_take (i := 2) (oi := ⟨some 190, _, _, _, _, _⟩) (v := ?_) rfl (by kernel_rfl) (by kernel_rfl) (by kernel_rfl) (fun _ _ _ h => h) (Or.inl ⟨by rfl, ?_⟩) (by assumption) ?_
              rotate_left
              · (intro w hSw; (try dsimp only at hSw); go_split_ands; go_simp); try (with_reducible rfl)
              try simp only [Act.put, List.setIfInBounds_toArray, List.set_cons_zero, List.set_cons_succ]
              refine wpAnyH_take (i := 3) (oi := ⟨some 191, _, _, _, _, _⟩) (v := ?_) rfl (by kernel_rfl) (by kernel_rfl) (by kernel_rfl) (fun _ _ _ h => h) (Or.inl ⟨by rfl, ?_⟩) (by assumption) ?_
              rotate_left
              · (intro w hSw; (try dsimp only at hSw); go_split_ands; go_simp); try (with_reducible rfl)
              try simp only [Act.put, List.setIfInBounds_toArray, List.set_cons_zero, List.set_cons_succ]
              refine wpAnyH_take (i := 4) (oi := ⟨some 192, _, _, _, _, _⟩) (v := ?_) rfl (by kernel_rfl) (by kernel_rfl) (by kernel_rfl) (fun _ _ _ h => h) (Or.inl ⟨by rfl, ?_⟩) (by assumption) ?_
              rotate_left
              · (intro w hSw; (try dsimp only at hSw); go_split_ands; go_simp); try (with_reducible rfl)
              try simp only [Act.put, List.setIfInBounds_toArray, List.set_cons_zero, List.set_cons_succ]
              refine wpAnyH_take (i := 6) (oi := ⟨some 194, _, _, _, _, _⟩) (v := ?_) rfl (by kernel_rfl) (by kernel_rfl) (by kernel_rfl) (fun _ _ _ h => h) (Or.inl ⟨by rfl, ?_⟩) (by assumption) ?_
              rotate_left
              · (intro w hSw; (try dsimp only at hSw); go_split_ands; go_simp); try (with_reducible rfl)
              try simp only [Act.put, List.setIfInBounds_toArray, List.set_cons_zero, List.set_cons_succ]
              refine wpAnyH_take (i := 7) (oi := ⟨some 195, _, _, _, _, _⟩) (v := ?_) rfl (by kernel_rfl) (by kernel_rfl) (by kernel_rfl) (fun _ _ _ h => h) (Or.inl ⟨by rfl, ?_⟩) (by assumption) ?_
              rotate_left
              · (intro w hSw; (try dsimp only at hSw); go_split_ands; go_simp); try (with_reducible rfl)
              try simp only [Act.put, List.setIfInBounds_toArray, List.set_cons_zero, List.set_cons_succ]
              refine wpAnyH_take (i := 8) (oi := ⟨some 196, _, _, _, _, _⟩) (v := ?_) rfl (by kernel_rfl) (by kernel_rfl) (by kernel_rfl) (fun _ _ _ h => h) (Or.inl ⟨by rfl, ?_⟩) (by assumption) ?_
              rotate_left
              · (intro w hSw; (try dsimp only at hSw); go_split_ands; go_simp); try (with_reducible rfl)
              try simp only [Act.put, List.setIfInBounds_toArray, List.set_cons_zero, List.set_cons_succ]
              refine wpAnyH_take (i := 9) (oi := ⟨some 197, _, _, _, _, _⟩) (v := ?_) rfl (by kernel_rfl) (by kernel_rfl) (by kernel_rfl) (fun _ _ _ h => h) (Or.inl ⟨by rfl, ?_⟩) (by assumption) ?_
              rotate_left
              · (intro w hSw; (try dsimp only at hSw); go_split_ands; go_simp); try (with_reducible rfl)
              try simp only [Act.put, List.setIfInBounds_toArray, List.set_cons_zero, List.set_cons_succ]
              refine wpAnyH_take (i := 10) (oi := ⟨some 198, _, _, _, _, _⟩) (v := ?_) rfl (by kernel_rfl) (by kernel_rfl) (by kernel_rfl) (fun _ _ _ h => h) (Or.inl ⟨by rfl, ?_⟩) (by assumption) ?_
              rotate_left
              · (intro w hSw; (try dsimp only at hSw); go_split_ands; go_simp); try (with_reducible rfl)
              try simp only [Act.put, List.setIfInBounds_toArray, List.set_cons_zero, List.set_cons_succ]
              have kl := HF.out.len
              rw [hM] at kl
              refine wpAnyH_ready (rs := [5]) (by kernel_rfl) (by simp) ?_
              refine AllReadyH.cons (o := ⟨some 193, _, _, _, _, _⟩) rfl (fun K hK => ?_) AllReadyH.nil
              go_simp
              refine kl.mono ?_
              rintro e w8 ⟨rfl, h8⟩
              have H8 := Lib.hid h8
              clear h8 kl HF
              try (go_wp2_with fail)
              refine hK.out _ _ ?_ (fun hHeld => ?_)
              · exact ⟨hM ▸ H8.out.cell, H8.out.b1.cell 1, H8.out.b0.cell 0, H8.out.b0.cell 1, H8.out.b0.cell 2⟩
              clear hK K
              refine wpAnyH_take (i := 11) (oi := ⟨some 199, _, _, _, _, _⟩) (v := ?_) rfl (by kernel_rfl) (by kernel_rfl) (by kernel_rfl) (fun _ _ _ h => h) (Or.inl ⟨by rfl, ?_⟩) (by assumption) ?_
              rotate_left
              · (intro w hSw; (try dsimp only at hSw); go_split_ands; go_simp); try (with_reducible rfl)
              try simp only [Act.put, List.setIfInBounds_toArray, List.set_cons_zero, List.set_cons_succ]
              refine wpAnyH_take (i := 12) (oi := ⟨some 200, _, _, _, _, _⟩) (v := ?_) rfl (by kernel_rfl) (by kernel_rfl) (by kernel_rfl) (fun _ _ _ h => h) (Or.inl ⟨by rfl, ?_⟩) (by assumption) ?_
              rotate_left
              · (intro w hSw; (try dsimp only at hSw); go_split_ands; go_simp); try (with_reducible rfl)
              try simp only [Act.put, List.setIfInBounds_toArray, List.set_cons_zero, List.set_cons_succ]
              refine wpAnyH_take (i := 13) (oi := ⟨some 201, _, _, _, _, _⟩) (v := ?_) rfl (by kernel_rfl) (by kernel_rfl) (by kernel_rfl) (fun _ _ _ h => h) (Or.inl ⟨by rfl, ?_⟩) (by assumption) ?_
              rotate_left
              · (intro w hSw; (try dsimp only at hSw); go_split_ands; go_simp); try (with_reducible rfl)
              try simp only [Act.put, List.setIfInBounds_toArray, List.set_cons_zero, List.set_cons_succ]
              refine wpAnyH_take (i := 14) (oi := ⟨some 202, _, _, _, _, _⟩) (v := ?_) rfl (by kernel_rfl) (by kernel_rfl) (by kernel_rfl) (fun _ _ _ h => h) (Or.inl ⟨by rfl, ?_⟩) (by assumption) ?_
              rotate_left
              · (intro w hSw; (try dsimp only at hSw); go_split_ands; go_simp); try (with_reducible rfl)
              try simp only [Act.put, List.setIfInBounds_toArray, List.set_cons_zero, List.set_cons_succ]
              refine wpAnyH_take (i := 15) (oi := ⟨some 203, _, _, _, _, _⟩) (v := ?_) rfl (by kernel_rfl) (by kernel_rfl) (by kernel_rfl) (fun _ _ _ h => h) (Or.inl ⟨by rfl, ?_⟩) (by assumption) ?_
              rotate_left
              · (intro w hSw; (try dsimp only at hSw); go_split_ands; go_simp); try (with_reducible rfl)
              try simp only [Act.put, List.setIfInBounds_toArray, List.set_cons_zero, List.set_cons_succ]
              refine wpAnyH_take (i := 16) (oi := ⟨some 204, _, _, _, _, _⟩) (v := ?_) rfl (by kernel_rfl) (by kernel_rfl) (by kernel_rfl) (fun _ _ _ h => h) (Or.inl ⟨by rfl, ?_⟩) (by assumption) ?_
              rotate_left
              · (intro w hSw; (try dsimp only at hSw); go_split_ands; go_simp); try (with_reducible rfl)
              try simp only [Act.put, List.setIfInBounds_toArray, List.set_cons_zero, List.set_cons_succ]
              refine wpAnyH_take (i := 17) (oi := ⟨some 205, _, _, _, _, _⟩) (v := ?_) rfl (by kernel_rfl) (by kernel_rfl) (by kernel_rfl) (fun _ _ _ h => h) (Or.inl ⟨by rfl, ?_⟩) (by assumption) ?_
              rotate_left
              · (intro w hSw; (try dsimp only at hSw); go_split_ands; go_simp); try (with_reducible rfl)
              try simp only [Act.put, List.setIfInBounds_toArray, List.set_cons_zero, List.set_cons_succ]
              have kt := H8.out.there oa
              rw [HG.out] at kt
              refine wpAnyH_ready (rs := [18]) (by kernel_rfl) (by simp) ?_
              refine AllReadyH.cons (o := ⟨some 206, _, _, _, _, _⟩) rfl (fun K hK => ?_) AllReadyH.nil
              go_simp
              refine kt.mono ?_
              rintro e w9 ⟨rfl, rfl⟩
              clear kt
              try (go_wp2_with fail)
              refine hK.out _ _ ?_ (fun hHeld => ?_)
              · exact ⟨hM ▸ H8.out.cell, H8.out.b1.cell 1, H8.out.b0.cell 0, H8.out.b0.cell 1, H8.out.b0.cell 2⟩
              clear hK K
              refine wpAnyH_take (i := 19) (oi := ⟨some 207, _, _, _, _, _⟩) (v := ?_) rfl (by kernel_rfl) (by kernel_rfl) (by kernel_rfl) (fun _ _ _ h => h) (Or.inl ⟨by rfl, ?_⟩) (by assumption) ?_
              rotate_left
              · (intro w hSw; (try dsimp only at hSw); go_split_ands; go_simp); try (with_reducible rfl)
              try simp only [Act.put, List.setIfInBounds_toArray, List.set_cons_zero, List.set_cons_succ]
              refine wpAnyH_take (i := 20) (oi := ⟨some 208, _, _, _, _, _⟩) (v := ?_) rfl (by kernel_rfl) (by kernel_rfl) (by kernel_rfl) (fun _ _ _ h => h) (Or.inl ⟨by rfl, ?_⟩) (by assumption) ?_
              rotate_left
              · (intro w hSw; (try dsimp only at hSw); go_split_ands; go_simp); try (with_reducible rfl)
              try simp only [Act.put, List.setIfInBounds_toArray, List.set_cons_zero, List.set_cons_succ]
              refine wpAnyH_take (i := 21) (oi := ⟨some 209, _, _, _, _, _⟩) (v := ?_) rfl (by kernel_rfl) (by kernel_rfl) (by kernel_rfl) (fun _ _ _ h => h) (Or.inl ⟨by rfl, ?_⟩) (by assumption) ?_
              rotate_left
              · (intro w hSw; (try dsimp only at hSw); go_split_ands; go_simp); try (with_reducible rfl)
              try simp only [Act.put, List.setIfInBounds_toArray, List.set_cons_zero, List.set_cons_succ]
              refine wpAnyH_take (i := 22) (oi := ⟨some 210, _, _, _, _, _⟩) (v := ?_) rfl (by kernel_rfl) (by kernel_rfl) (by kernel_rfl) (fun _ _ _ h => h) (Or.inl ⟨by rfl, ?_⟩) (by assumption) ?_
              rotate_left
              · (intro w hSw; (try dsimp only at hSw); go_split_ands; go_simp); try (with_reducible rfl)
              try simp only [Act.put, List.setIfInBounds_toArray, List.set_cons_zero, List.set_cons_succ]
              refine wpAnyH_take (i := 23) (oi := ⟨some 211, _, _, _, _, _⟩) (v := ?_) rfl (by kernel_rfl) (by kernel_rfl) (by kernel_rfl) (fun _ _ _ h => h) (Or.inl ⟨by rfl, ?_⟩) (by assumption) ?_
              rotate_left
              · (intro w hSw; (try dsimp only at hSw); go_split_ands; go_simp); try (with_reducible rfl)
              try simp only [Act.put, List.setIfInBounds_toArray, List.set_cons_zero, List.set_cons_succ]
              refine wpAnyH_take (i := 24) (oi := ⟨some 212, _, _, _, _, _⟩) (v := undef) rfl (by kernel_rfl) (by kernel_rfl) (by kernel_rfl) (fun _ _ _ h => h) (Or.inr ⟨by rfl, rfl⟩) (by assumption) ?_
              try simp only [Act.put, List.setIfInBounds_toArray, List.set_cons_zero, List.set_cons_succ]
              refine wpAnyH_take (i := 25) (oi := ⟨some 213, _, _, _, _, _⟩) (v := undef) rfl (by kernel_rfl) (by kernel_rfl) (by kernel_rfl) (fun _ _ _ h => h) (Or.inr ⟨by rfl, rfl⟩) (by assumption) ?_
              try simp only [Act.put, List.setIfInBounds_toArray, List.set_cons_zero, List.set_cons_succ]
              refine wpAnyH_take (i := 26) (oi := ⟨some 214, _, _, _, _, _⟩) (v := undef) rfl (by kernel_rfl) (by kernel_rfl) (by kernel_rfl) (fun _ _ _ h => h) (Or.inr ⟨by rfl, rfl⟩) (by assumption) ?_
              try simp only [Act.put, List.setIfInBounds_toArray, List.set_cons_zero, List.set_cons_succ]
              refine wpAnyH_take (i := 27) (oi := ⟨some 215, _, _, _, _, _⟩) (v := undef) rfl (by kernel_rfl) (by kernel_rfl) (by kernel_rfl) (fun _ _ _ h => h) (Or.inr ⟨by rfl, rfl⟩) (by assumption) ?_
              try simp only [Act.put, List.setIfInBounds_toArray, List.set_cons_zero, List.set_cons_succ]
              refine wpAnyH_take (i := 28) (oi := ⟨some 216, _, _, _, _, _⟩) (v := undef) rfl (by kernel_rfl) (by kernel_rfl) (by kernel_rfl) (fun _ _ _ h => h) (Or.inr ⟨by rfl, rfl⟩) (by assumption) ?_
              try simp only [Act.put, List.setIfInBounds_toArray, List.set_cons_zero, List.set_cons_succ]
              refine wpAnyH_take (i := 29) (oi := ⟨some 217, _, _, _, _, _⟩) (v := undef) rfl (by kernel_rfl) (by kernel_rfl) (by kernel_rfl) (fun _ _ _ h => h) (Or.inr ⟨by rfl, rfl⟩) (by assumption) ?_
              try simp only [Act.put, List.setIfInBounds_toArray, List.set_cons_zero, List.set_cons_succ]
              refine wpAnyH_take (i := 30) (oi := ⟨some 218, _, _, _, _, _⟩) (v := undef) rfl (by kernel_rfl) (by kernel_rfl) (by kernel_rfl) (fun _ _ _ h => h) (Or.inr ⟨by rfl, rfl⟩) (by assumption) ?_
              try simp only [Act.put, List.setIfInBounds_toArray, List.set_cons_zero, List.set_cons_succ]
              refine wpAnyH_take (i := 31) (oi := ⟨some 219, _, _, _, _, _⟩) (v := undef) rfl (by kernel_rfl) (by kernel_rfl) (by kernel_rfl) (fun _ _ _ h => h) (Or.inr ⟨by rfl, rfl⟩) (by assumption) ?_
              try simp only [Act.put, List.setIfInBounds_toArray, List.set_cons_zero, List.set_cons_succ]
              refine wpAnyH_take (i := 32) (oi := ⟨some 220, _, _, _, _, _⟩) (v := undef) rfl (by kernel_rfl) (by kernel_rfl) (by kernel_rfl) (fun _ _ _ h => h) (Or.inr ⟨by rfl, rfl⟩) (by assumption) ?_
              try simp only [Act.put, List.setIfInBounds_toArray, List.set_cons_zero, List.set_cons_succ]
              refine wpAnyH_take (i := 33) (oi := ⟨some 221, _, _, _, _, _⟩) (v := undef) rfl (by kernel_rfl) (by kernel_rfl) (by kernel_rfl) (fun _ _ _ h => h) (Or.inr ⟨by rfl, rfl⟩) (by assumption) ?_
              try simp only [Act.put, List.setIfInBounds_toArray, List.set_cons_zero, List.set_cons_succ]
              refine wpAnyH_take (i := 34) (oi := ⟨some 222, _, _, _, _, _⟩) (v := undef) rfl (by kernel_rfl) (by kernel_rfl) (by kernel_rfl) (fun _ _ _ h => h) (Or.inr ⟨by rfl, rfl⟩) (by assumption) ?_
              try simp only [Act.put, List.setIfInBounds_toArray, List.set_cons_zero, List.set_cons_succ]
              refine wpAnyH_take (i := 35) (oi := ⟨some 223, _, _, _, _, _⟩) (v := ?_) rfl (by kernel_rfl) (by kernel_rfl) (by kernel_rfl) (fun _ _ _ h => h) (Or.inl ⟨by rfl, ?_⟩) (by assumption) ?_
              rotate_left
              · (intro w hSw; (try dsimp only at hSw); go_split_ands; go_simp); try (with_reducible rfl)
              try simp only [Act.put, List.setIfInBounds_toArray, List.set_cons_zero, List.set_cons_succ]
              refine wpAnyH_take (i := 36) (oi := ⟨some 224, _, _, _, _, _⟩) (v := ?_) rfl (by kernel_rfl) (by kernel_rfl) (by kernel_rfl) (fun _ _ _ h => h) (Or.inl ⟨by rfl, ?_⟩) (by assumption) ?_
              rotate_left
              · (intro w hSw; (try dsimp only at hSw); go_split_ands; go_simp); try (with_reducible rfl)
              try simp only [Act.put, List.setIfInBounds_toArray, List.set_cons_zero, List.set_cons_succ]
              refine wpAnyH_take (i := 37) (oi := ⟨some 225, _, _, _, _, _⟩) (v := ?_) rfl (by kernel_rfl) (by kernel_rfl) (by kernel_rfl) (fun _ _ _ h => h) (Or.inl ⟨by rfl, ?_⟩) (by assumption) ?_
              rotate_left
              · (intro w hSw; (try dsimp only at hSw); go_split_ands; go_simp); try (with_reducible rfl)
              try simp only [Act.put, List.setIfInBounds_toArray, List.set_cons_zero, List.set_cons_succ]
              refine wpAnyH_take (i := 38) (oi := ⟨some 226, _, _, _, _, _⟩) (v := ?_) rfl (by kernel_rfl) (by kernel_rfl) (by kernel_rfl) (fun _ _ _ h => h) (Or.inl ⟨by rfl, ?_⟩) (by assumption) ?_
              rotate_left
              · (intro w hSw; (try dsimp only at hSw); go_split_ands; go_simp); try (with_reducible rfl)
              try simp only [Act.put, List.setIfInBounds_toArray, List.set_cons_zero, List.set_cons_succ]
              refine wpAnyH_take (i := 39) (oi := ⟨some 227, _, _, _, _, _⟩) (v := ?_) rfl (by kernel_rfl) (by kernel_rfl) (by kernel_rfl) (fun _ _ _ h => h) (Or.inl ⟨by rfl, ?_⟩) (by assumption) ?_
              rotate_left
              · (intro w hSw; (try dsimp only at hSw); go_split_ands; go_simp); try (with_reducible rfl)
              try simp only [Act.put, List.setIfInBounds_toArray, List.set_cons_zero, List.set_cons_succ]
              refine wpAnyH_take (i := 40) (oi := ⟨some 228, _, _, _, _, _⟩) (v := ?_) rfl (by kernel_rfl) (by kernel_rfl) (by kernel_rfl) (fun _ _ _ h => h) (Or.inl ⟨by rfl, ?_⟩) (by assumption) ?_
              rotate_left
              · (intro w hSw; (try dsimp only at hSw); go_split_ands; go_simp); try (with_reducible rfl)
              try simp only [Act.put, List.setIfInBounds_toArray, List.set_cons_zero, List.set_cons_succ]
              refine wpAnyH_take (i := 41) (oi := ⟨some 229, _, _, _, _, _⟩) (v := ?_) rfl (by kernel_rfl) (by kernel_rfl) (by kernel_rfl) (fun _ _ _ h => h) (Or.inl ⟨by rfl, ?_⟩) (by assumption) ?_
              rotate_left
              · (intro w hSw; (try dsimp only at hSw); go_split_ands; go_simp); try (with_reducible rfl)
              try simp only [Act.put, List.setIfInBounds_toArray, List.set_cons_zero, List.set_cons_succ]
              refine wpAnyH_take (i := 42) (oi := ⟨some 230, _, _, _, _, _⟩) (v := ?_) rfl (by kernel_rfl) (by kernel_rfl) (by kernel_rfl) (fun _ _ _ h => h) (Or.inl ⟨by rfl, ?_⟩) (by assumption) ?_
              rotate_left
              · (intro w hSw; (try dsimp only at hSw); go_split_ands; go_simp); try (with_reducible rfl)
              try simp only [Act.put, List.setIfInBounds_toArray, List.set_cons_zero, List.set_cons_succ]
              refine wpAnyH_take (i := 43) (oi := ⟨some 231, _, _, _, _, _⟩) (v := ?_) rfl (by kernel_rfl) (by kernel_rfl) (by kernel_rfl) (fun _ _ _ h => h) (Or.inl ⟨by rfl, ?_⟩) (by assumption) ?_
              rotate_left
              · (intro w hSw; (try dsimp only at hSw); go_split_ands; go_simp); try (with_reducible rfl)
              try simp only [Act.put, List.setIfInBounds_toArray, List.set_cons_zero, List.set_cons_succ]
              refine wpAnyH_take (i := 44) (oi := ⟨some 232, _, _, _, _, _⟩) (v := ?_) rfl (by kernel_rfl) (by kernel_rfl) (by kernel_rfl) (fun _ _ _ h => h) (Or.inl ⟨by rfl, ?_⟩) (by assumption) ?_
              rotate_left
              · (intro w hSw; (try dsimp only at hSw); go_split_ands; go_simp); try (with_reducible rfl)
              try simp only [Act.put, List.setIfInBounds_toArray, List.set_cons_zero, List.set_cons_succ]
              refine wpAnyH_take (i := 45) (oi := ⟨some 233, _, _, _, _, _⟩) (v := ?_) rfl (by kernel_rfl) (by kernel_rfl) (by kernel_rfl) (fun _ _ _ h => h) (Or.inl ⟨by rfl, ?_⟩) (by assumption) ?_
              rotate_left
              · (intro w hSw; (try dsimp only at hSw); go_split_ands; go_simp); try (with_reducible rfl)
              try simp only [Act.put, List.setIfInBounds_toArray, List.set_cons_zero, List.set_cons_succ]
              refine wpAnyH_done (by kernel_rfl) ?_ _
              go_wp2_with fail
              go_roundw
              case rel => exact ⟨k + 1, by omega, by go_num, Lib.hid ⟨N2, xs2, C2, cs2, m1, m2, m3, m4, H8.out.play.pop.pop⟩⟩
              case measure => simp [intOf]; omega
          · obtain ⟨kk, rfl, hkk⟩ := in_nat hin
            obtain ⟨p, hp1, hp2, hp3⟩ := in_get hkk
            obtain ⟨pf, pt, pd⟩ := p
            as_aux_lemma =>
              have kp := j_peek m5 (kk : Int)
              rw [hp2, hp3] at kp
              dsimp only [agg] at kp
              have c1 : wc.cell? ⟨y8, 1, none⟩ = some (.int .i64 (kk : Int)) := m5.b0.cell 1
              clear m5
              go_upto_region 46 with (go_at_call 27; refine kp.mono ?_; rintro e w6 ⟨rfl, h6⟩; have H6 := Lib.hid h6; clear h6 kp)
              clear c1
              have h7 := H6.out.side_new (belowNew (belowSame w6) (.cells #[.int .i64 pf, .int .i64 pt, .string pd] 28)) (Blk.new w6 28 #[.int .i64 pf, .int .i64 pt, .string pd]) (Nat.le_refl _)
              obtain ⟨W7, hW⟩ : ∃ W, w6.alloc (.cells #[.int .i64 pf, .int .i64 pt, .string pd] 28) = W := ⟨_, rfl⟩
              obtain ⟨y18, hy⟩ : ∃ y, w6.heap.size = y := ⟨_, rfl⟩
              rw [hW, hy] at h7
              rw [hW, hy]
              clear hW hy
              obtain ⟨aL, cL, aC, cC, h7⟩ := h7.fix
              have hcap := h7.caps
              unfold maxLen at hcap
              obtain ⟨bL, rfl⟩ := h7.place (by omega)
              obtain ⟨M, hM⟩ : ∃ M, xs2.length = M := ⟨_, rfl⟩
              have i0 : (0 : Int) ≤ (kk : Int) := by omega
              have i1 : (kk : Int) < (M : Int) := by omega
              have HG := Lib.hid (And.intro hp1 hp3)
              clear hp1 hp2 hp3 hin
              have h7d := h7.drew
              have HF := Lib.hid h7d
              clear h7
              have hS : W7.drew.cell? ⟨r, 0, none⟩ = some (.slice (some ⟨bL, 0, none⟩) M cL) ∧ W7.drew.cell? ⟨y8, 1, none⟩ = some (.int .i64 (kk : Int)) ∧ W7.drew.cell? ⟨y18, 0, none⟩ = some (.int .i64 pf) ∧ W7.drew.cell? ⟨y18, 1, none⟩ = some (.int .i64 pt) ∧ W7.drew.cell? ⟨y18, 2, none⟩ = some (.string pd) ∧ W7.drew.cell? ⟨bL, kk * 3, none⟩ = some (.int .i64 pf) ∧ W7.drew.cell? ⟨bL, kk * 3 + 1, none⟩ = some (.int .i64 pt) ∧ W7.drew.cell? ⟨bL, kk * 3 + 2, none⟩ = some (.string pd) := by
                exact ⟨hM ▸ h7d.cell, h7d.b1.cell 1, h7d.b0.cell 0, h7d.b0.cell 1, h7d.b0.cell 2, (h7d.cells HG.out.1).1, (h7d.cells HG.out.1).2.1, (h7d.cells HG.out.1).2.2⟩
              clear h7d
              refine wp_region_held_drew (S := (fun W => W.cell? ⟨r, 0, none⟩ = some (.slice (some ⟨bL, 0, none⟩) M cL) ∧ W.cell? ⟨y8, 1, none⟩ = some (.int .i64 (kk : Int)) ∧ W.cell? ⟨y18, 0, none⟩ = some (.int .i64 pf) ∧ W.cell? ⟨y18, 1, none⟩ = some (.int .i64 pt) ∧ W.cell? ⟨y18, 2, none⟩ = some (.string pd) ∧ W.cell? ⟨bL, kk * 3, none⟩ = some (.int .i64 pf) ∧ W.cell? ⟨bL, kk * 3 + 1, none⟩ = some (.int .i64 pt) ∧ W.cell? ⟨bL, kk * 3 + 2, none⟩ = some (.string pd))) (by kernel_rfl) hS (fun hHeld => ?_)
              clear hS
              refine wpAnyH_take (i := 0) (oi := ⟨some 188, _, _, _, _, _⟩) (v := ?_) rfl (by kernel_rfl) (by kernel_rfl) (by kernel_rfl) (fun _ _ _ h => h) (Or.inl ⟨by rfl, ?_⟩) (by assumption) ?_
              rotate_left
              · (intro w hSw; (try dsimp only at hSw); go_split_ands; go_simp); try (with_reducible rfl)
              try simp only [Act.put, List.setIfInBounds_toArray, List.set_cons_zero, List.set_cons_succ]
              refine wpAnyH_take (i := 1) (oi := ⟨some 189, _, _, _, _, _⟩) (v := ?_) rfl (by kernel_rfl) (by kernel_rfl) (by kernel_rfl) (fun _ _ _ h => h) (Or.inl ⟨by rfl, ?_⟩) (by assumption) ?_
              rotate_left
              · (intro w hSw; (try dsimp only at hSw); go_split_ands; go_simp); try (with_reducible rfl)
              try simp only [Act.put, List.setIfInBounds_toArray, List.set_cons_zero, List.set_cons_succ]
              refine wpAnyH_take (i := 2) (oi := ⟨some 190, _, _, _, _, _⟩) (v := ?_) rfl (by kernel_rfl) (by kernel_rfl) (by kernel_rfl) (fun _ _ _ h => h) (Or.inl ⟨by rfl, ?_⟩) (by assumption) ?_
              rotate_left
              · (intro w hSw; (try dsimp only at hSw); go_split_ands; go_simp); try (with_reducible rfl)
              try simp only [Act.put, List.setIfInBounds_toArray, List.set_cons_zero, List.set_cons_succ]
              refine wpAnyH_take (i := 3) (oi := ⟨some 191, _, _, _, _, _⟩) (v := ?_) rfl (by kernel_rfl) (by kernel_rfl) (by kernel_rfl) (fun _ _ _ h => h) (Or.inl ⟨by rfl, ?_⟩) (by assumption) ?_
              rotate_left
              · (intro w hSw; (try dsimp only at hSw); go_split_ands; go_simp); try (with_reducible rfl)
              try simp only [Act.put, List.setIfInBounds_toArray, List.set_cons_zero, List.set_cons_succ]
              refine wpAnyH_take (i := 4) (oi := ⟨some 192, _, _, _, _, _⟩) (v := ?_) rfl (by kernel_rfl) (by kernel_rfl) (by kernel_rfl) (fun _ _ _ h => h) (Or.inl ⟨by rfl, ?_⟩) (by assumption) ?_
              rotate_left
              · (intro w hSw; (try dsimp only at hSw); go_split_ands; go_simp); try (with_reducible rfl)
              try simp only [Act.put, List.setIfInBounds_toArray, List.set_cons_zero, List.set_cons_succ]
              refine wpAnyH_take (i := 6) (oi := ⟨some 194, _, _, _, _, _⟩) (v := ?_) rfl (by kernel_rfl) (by kernel_rfl) (by kernel_rfl) (fun _ _ _ h => h) (Or.inl ⟨by rfl, ?_⟩) (by assumption) ?_
              rotate_left
              · (intro w hSw; (try dsimp only at hSw); go_split_ands; go_simp); try (with_reducible rfl)
              try simp only [Act.put, List.setIfInBounds_toArray, List.set_cons_zero, List.set_cons_succ]
              refine wpAnyH_take (i := 7) (oi := ⟨some 195, _, _, _, _, _⟩) (v := ?_) rfl (by kernel_rfl) (by kernel_rfl) (by kernel_rfl) (fun _ _ _ h => h) (Or.inl ⟨by rfl, ?_⟩) (by assumption) ?_
              rotate_left
              · (intro w hSw; (try dsimp only at hSw); go_split_ands; go_simp); try (with_reducible rfl)
              try simp only [Act.put, List.setIfInBounds_toArray, List.set_cons_zero, List.set_cons_succ]
              refine wpAnyH_take (i := 8) (oi := ⟨some 196, _, _, _, _, _⟩) (v := ?_) rfl (by kernel_rfl) (by kernel_rfl) (by kernel_rfl) (fun _ _ _ h => h) (Or.inl ⟨by rfl, ?_⟩) (by assumption) ?_
              rotate_left
              · (intro w hSw; (try dsimp only at hSw); go_split_ands; go_simp); try (with_reducible rfl)
              try simp only [Act.put, List.setIfInBounds_toArray, List.set_cons_zero, List.set_cons_succ]
              refine wpAnyH_take (i := 9) (oi := ⟨some 197, _, _, _, _, _⟩) (v := ?_) rfl (by kernel_rfl) (by kernel_rfl) (by kernel_rfl) (fun _ _ _ h => h) (Or.inl ⟨by rfl, ?_⟩) (by assumption) ?_
              rotate_left
              · (intro w hSw; (try dsimp only at hSw); go_split_ands; go_simp); try (with_reducible rfl)
              try simp only [Act.put, List.setIfInBounds_toArray, List.set_cons_zero, List.set_cons_succ]
              refine wpAnyH_take (i := 10) (oi := ⟨some 198, _, _, _, _, _⟩) (v := ?_) rfl (by kernel_rfl) (by kernel_rfl) (by kernel_rfl) (fun _ _ _ h => h) (Or.inl ⟨by rfl, ?_⟩) (by assumption) ?_
              rotate_left
              · (intro w hSw; (try dsimp only at hSw); go_split_ands; go_simp); try (with_reducible rfl)
              try simp only [Act.put, List.setIfInBounds_toArray, List.set_cons_zero, List.set_cons_succ]
              have kl := HF.out.len
              rw [hM] at kl
              refine wpAnyH_ready (rs := [5]) (by kernel_rfl) (by simp) ?_
              refine AllReadyH.cons (o := ⟨some 193, _, _, _, _, _⟩) rfl (fun K hK => ?_) AllReadyH.nil
              go_simp
              refine kl.mono ?_
              rintro e w8 ⟨rfl, h8⟩
              have H8 := Lib.hid h8
              clear h8 kl HF
              try (go_wp2_with fail)
              refine hK.out _ _ ?_ (fun hHeld => ?_)
              · exact ⟨hM ▸ H8.out.cell, H8.out.b1.cell 1, H8.out.b0.cell 0, H8.out.b0.cell 1, H8.out.b0.cell 2, (H8.out.cells HG.out.1).1, (H8.out.cells HG.out.1).2.1, (H8.out.cells HG.out.1).2.2⟩
              clear hK K
              refine wpAnyH_take (i := 11) (oi := ⟨some 199, _, _, _, _, _⟩) (v := ?_) rfl (by kernel_rfl) (by kernel_rfl) (by kernel_rfl) (fun _ _ _ h => h) (Or.inl ⟨by rfl, ?_⟩) (by assumption) ?_
              rotate_left
              · (intro w hSw; (try dsimp only at hSw); go_split_ands; go_simp); try (with_reducible rfl)
              try simp only [Act.put, List.setIfInBounds_toArray, List.set_cons_zero, List.set_cons_succ]
              refine wpAnyH_take (i := 12) (oi := ⟨some 200, _, _, _, _, _⟩) (v := ?_) rfl (by kernel_rfl) (by kernel_rfl) (by kernel_rfl) (fun _ _ _ h => h) (Or.inl ⟨by rfl, ?_⟩) (by assumption) ?_
              rotate_left
              · (intro w hSw; (try dsimp only at hSw); go_split_ands; go_simp); try (with_reducible rfl)
              try simp only [Act.put, List.setIfInBounds_toArray, List.set_cons_zero, List.set_cons_succ]
              refine wpAnyH_take (i := 13) (oi := ⟨some 201, _, _, _, _, _⟩) (v := ?_) rfl (by kernel_rfl) (by kernel_rfl) (by kernel_rfl) (fun _ _ _ h => h) (Or.inl ⟨by rfl, ?_⟩) (by assumption) ?_
              rotate_left
              · (intro w hSw; (try dsimp only at hSw); go_split_ands; go_simp); try (with_reducible rfl)
              try simp only [Act.put, List.setIfInBounds_toArray, List.set_cons_zero, List.set_cons_succ]
              refine wpAnyH_take (i := 14) (oi := ⟨some 202, _, _, _, _, _⟩) (v := ?_) rfl (by kernel_rfl) (by kernel_rfl) (by kernel_rfl) (fun _ _ _ h => h) (Or.inl ⟨by rfl, ?_⟩) (by assumption) ?_
              rotate_left
              · (intro w hSw; (try dsimp only at hSw); go_split_ands; go_simp); try (with_reducible rfl)
              try simp only [Act.put, List.setIfInBounds_toArray, List.set_cons_zero, List.set_cons_succ]
              refine wpAnyH_take (i := 15) (oi := ⟨some 203, _, _, _, _, _⟩) (v := ?_) rfl (by kernel_rfl) (by kernel_rfl) (by kernel_rfl) (fun _ _ _ h => h) (Or.inl ⟨by rfl, ?_⟩) (by assumption) ?_
              rotate_left
              · (intro w hSw; (try dsimp only at hSw); go_split_ands; go_simp); try (with_reducible rfl)
              try simp only [Act.put, List.setIfInBounds_toArray, List.set_cons_zero, List.set_cons_succ]
              refine wpAnyH_take (i := 16) (oi := ⟨some 204, _, _, _, _, _⟩) (v := ?_) rfl (by kernel_rfl) (by kernel_rfl) (by kernel_rfl) (fun _ _ _ h => h) (Or.inl ⟨by rfl, ?_⟩) (by assumption) ?_
              rotate_left
              · (intro w hSw; (try dsimp only at hSw); go_split_ands; go_simp); try (with_reducible rfl)
              try simp only [Act.put, List.setIfInBounds_toArray, List.set_cons_zero, List.set_cons_succ]
              refine wpAnyH_take (i := 17) (oi := ⟨some 205, _, _, _, _, _⟩) (v := ?_) rfl (by kernel_rfl) (by kernel_rfl) (by kernel_rfl) (fun _ _ _ h => h) (Or.inl ⟨by rfl, ?_⟩) (by assumption) ?_
              rotate_left
              · (intro w hSw; (try dsimp only at hSw); go_split_ands; go_simp); try (with_reducible rfl)
              try simp only [Act.put, List.setIfInBounds_toArray, List.set_cons_zero, List.set_cons_succ]
              have kt := H8.out.there (kk : Int)
              rw [HG.out.2] at kt
              refine wpAnyH_ready (rs := [18]) (by kernel_rfl) (by simp) ?_
              refine AllReadyH.cons (o := ⟨some 206, _, _, _, _, _⟩) rfl (fun K hK => ?_) AllReadyH.nil
              go_simp
              refine kt.mono ?_
              rintro e w9 ⟨rfl, rfl⟩
              clear kt
              try (go_wp2_with fail)
              refine hK.out _ _ ?_ (fun hHeld => ?_)
              · exact ⟨hM ▸ H8.out.cell, H8.out.b1.cell 1, H8.out.b0.cell 0, H8.out.b0.cell 1, H8.out.b0.cell 2, (H8.out.cells HG.out.1).1, (H8.out.cells HG.out.1).2.1, (H8.out.cells HG.out.1).2.2⟩
              clear hK K
              refine wpAnyH_take (i := 19) (oi := ⟨some 207, _, _, _, _, _⟩) (v := ?_) rfl (by kernel_rfl) (by kernel_rfl) (by kernel_rfl) (fun _ _ _ h => h) (Or.inl ⟨by rfl, ?_⟩) (by assumption) ?_
              rotate_left
              · (intro w hSw; (try dsimp only at hSw); go_split_ands; go_simp); try (with_reducible rfl)
              try simp only [Act.put, List.setIfInBounds_toArray, List.set_cons_zero, List.set_cons_succ]
              refine wpAnyH_take (i := 20) (oi := ⟨some 208, _, _, _, _, _⟩) (v := ?_) rfl (by kernel_rfl) (by kernel_rfl) (by kernel_rfl) (fun _ _ _ h => h) (Or.inl ⟨by rfl, ?_⟩) (by assumption) ?_
              rotate_left
              · (intro w hSw; (try dsimp only at hSw); go_split_ands; go_simp); try (with_reducible rfl)
              try simp only [Act.put, List.setIfInBounds_toArray, List.set_cons_zero, List.set_cons_succ]
              refine wpAnyH_take (i := 21) (oi := ⟨some 209, _, _, _, _, _⟩) (v := ?_) rfl (by kernel_rfl) (by kernel_rfl) (by kernel_rfl) (fun _ _ _ h => h) (Or.inl ⟨by rfl, ?_⟩) (by assumption) ?_
              rotate_left
              · (intro w hSw; (try dsimp only at hSw); go_split_ands; go_simp); try (with_reducible rfl)
              try simp only [Act.put, List.setIfInBounds_toArray, List.set_cons_zero, List.set_cons_succ]
              refine wpAnyH_take (i := 22) (oi := ⟨some 210, _, _, _, _, _⟩) (v := ?_) rfl (by kernel_rfl) (by kernel_rfl) (by kernel_rfl) (fun _ _ _ h => h) (Or.inl ⟨by rfl, ?_⟩) (by assumption) ?_
              rotate_left
              · (intro w hSw; (try dsimp only at hSw); go_split_ands; go_simp); try (with_reducible rfl)
              try simp only [Act.put, List.setIfInBounds_toArray, List.set_cons_zero, List.set_cons_succ]
              refine wpAnyH_take (i := 23) (oi := ⟨some 211, _, _, _, _, _⟩) (v := ?_) rfl (by kernel_rfl) (by kernel_rfl) (by kernel_rfl) (fun _ _ _ h => h) (Or.inl ⟨by rfl, ?_⟩) (by assumption) ?_
              rotate_left
              · (intro w hSw; (try dsimp only at hSw); go_split_ands; go_simp); try (with_reducible rfl)
              try simp only [Act.put, List.setIfInBounds_toArray, List.set_cons_zero, List.set_cons_succ]
              refine wpAnyH_take (i := 24) (oi := ⟨some 212, _, _, _, _, _⟩) (v := ?_) rfl (by kernel_rfl) (by kernel_rfl) (by kernel_rfl) (fun _ _ _ h => h) (Or.inl ⟨by rfl, ?_⟩) (by assumption) ?_
              rotate_left
              · (intro w hSw; (try dsimp only at hSw); go_split_ands; go_simp); try (with_reducible rfl)
              try simp only [Act.put, List.setIfInBounds_toArray, List.set_cons_zero, List.set_cons_succ]
              refine wpAnyH_take (i := 25) (oi := ⟨some 213, _, _, _, _, _⟩) (v := ?_) rfl (by kernel_rfl) (by kernel_rfl) (by kernel_rfl) (fun _ _ _ h => h) (Or.inl ⟨by rfl, ?_⟩) (by assumption) ?_
              rotate_left
              · (intro w hSw; (try dsimp only at hSw); go_split_ands; go_simp); try (with_reducible rfl)
              try simp only [Act.put, List.setIfInBounds_toArray, List.set_cons_zero, List.set_cons_succ]
              refine wpAnyH_take (i := 26) (oi := ⟨some 214, _, _, _, _, _⟩) (v := ?_) rfl (by kernel_rfl) (by kernel_rfl) (by kernel_rfl) (fun _ _ _ h => h) (Or.inl ⟨by rfl, ?_⟩) (by assumption) ?_
              rotate_left
              · (intro w hSw; (try dsimp only at hSw); go_split_ands; go_simp); try (with_reducible rfl)
              try simp only [Act.put, List.setIfInBounds_toArray, List.set_cons_zero, List.set_cons_succ]
              refine wpAnyH_take (i := 27) (oi := ⟨some 215, _, _, _, _, _⟩) (v := ?_) rfl (by kernel_rfl) (by kernel_rfl) (by kernel_rfl) (fun _ _ _ h => h) (Or.inl ⟨by rfl, ?_⟩) (by assumption) ?_
              rotate_left
              · (intro w hSw; (try dsimp only at hSw); go_split_ands; go_simp); try (with_reducible rfl)
              try simp only [Act.put, List.setIfInBounds_toArray, List.set_cons_zero, List.set_cons_succ]
              refine wpAnyH_take (i := 28) (oi := ⟨some 216, _, _, _, _, _⟩) (v := ?_) rfl (by kernel_rfl) (by kernel_rfl) (by kernel_rfl) (fun _ _ _ h => h) (Or.inl ⟨by rfl, ?_⟩) (by assumption) ?_
              rotate_left
              · (intro w hSw; (try dsimp only at hSw); go_split_ands; go_simp); try (with_reducible rfl)
              try simp only [Act.put, List.setIfInBounds_toArray, List.set_cons_zero, List.set_cons_succ]
              refine wpAnyH_take (i := 29) (oi := ⟨some 217, _, _, _, _, _⟩) (v := ?_) rfl (by kernel_rfl) (by kernel_rfl) (by kernel_rfl) (fun _ _ _ h => h) (Or.inl ⟨by rfl, ?_⟩) (by assumption) ?_
              rotate_left
              · (intro w hSw; (try dsimp only at hSw); go_split_ands; go_simp); try (with_reducible rfl)
              try simp only [Act.put, List.setIfInBounds_toArray, List.set_cons_zero, List.set_cons_succ]
              refine wpAnyH_take (i := 30) (oi := ⟨some 218, _, _, _, _, _⟩) (v := ?_) rfl (by kernel_rfl) (by kernel_rfl) (by kernel_rfl) (fun _ _ _ h => h) (Or.inl ⟨by rfl, ?_⟩) (by assumption) ?_
              rotate_left
              · (intro w hSw; (try dsimp only at hSw); go_split_ands; go_simp); try (with_reducible rfl)
              try simp only [Act.put, List.setIfInBounds_toArray, List.set_cons_zero, List.set_cons_succ]
              refine wpAnyH_take (i := 31) (oi := ⟨some 219, _, _, _, _, _⟩) (v := ?_) rfl (by kernel_rfl) (by kernel_rfl) (by kernel_rfl) (fun _ _ _ h => h) (Or.inl ⟨by rfl, ?_⟩) (by assumption) ?_
              rotate_left
              · (intro w hSw; (try dsimp only at hSw); go_split_ands; go_simp); try (with_reducible rfl)
              try simp only [Act.put, List.setIfInBounds_toArray, List.set_cons_zero, List.set_cons_succ]
              refine wpAnyH_take (i := 32) (oi := ⟨some 220, _, _, _, _, _⟩) (v := ?_) rfl (by kernel_rfl) (by kernel_rfl) (by kernel_rfl) (fun _ _ _ h => h) (Or.inl ⟨by rfl, ?_⟩) (by assumption) ?_
              rotate_left
              · (intro w hSw; (try dsimp only at hSw); go_split_ands; go_simp); try (with_reducible rfl)
              try simp only [Act.put, List.setIfInBounds_toArray, List.set_cons_zero, List.set_cons_succ]
              have kq := same_any ⟨pf, pt, pd⟩ ⟨pf, pt, pd⟩ w8
              rw [sameB_self] at kq
              dsimp only [agg] at kq
              refine wpAnyH_ready (rs := [33]) (by kernel_rfl) (by simp) ?_
              refine AllReadyH.cons (o := ⟨some 221, _, _, _, _, _⟩) rfl (fun K hK => ?_) AllReadyH.nil
              go_simp
              refine kq.mono ?_
              rintro e w9 ⟨rfl, hb⟩
              have H9 := Lib.hid (H8.out.then_ hb)
              clear hb kq H8
              try (go_wp2_with fail)
              refine hK.out _ _ ?_ (fun hHeld => ?_)
              · exact ⟨hM ▸ H9.out.cell, H9.out.b1.cell 1, H9.out.b0.cell 0, H9.out.b0.cell 1, H9.out.b0.cell 2, (H9.out.cells HG.out.1).1, (H9.out.cells HG.out.1).2.1, (H9.out.cells HG.out.1).2.2⟩
              clear hK K
              refine wpAnyH_take (i := 34) (oi := ⟨some 222, _, _, _, _, _⟩) (v := ?_) rfl (by kernel_rfl) (by kernel_rfl) (by kernel_rfl) (fun _ _ _ h => h) (Or.inl ⟨by rfl, ?_⟩) (by assumption) ?_
              rotate_left
              · (intro w hSw; (try dsimp only at hSw); go_split_ands; go_simp); try (with_reducible rfl)
              try simp only [Act.put, List.setIfInBounds_toArray, List.set_cons_zero, List.set_cons_succ]
              refine wpAnyH_take (i := 35) (oi := ⟨some 223, _, _, _, _, _⟩) (v := ?_) rfl (by kernel_rfl) (by kernel_rfl) (by kernel_rfl) (fun _ _ _ h => h) (Or.inl ⟨by rfl, ?_⟩) (by assumption) ?_
              rotate_left
              · (intro w hSw; (try dsimp only at hSw); go_split_ands; go_simp); try (with_reducible rfl)
              try simp only [Act.put, List.setIfInBounds_toArray, List.set_cons_zero, List.set_cons_succ]
              refine wpAnyH_take (i := 36) (oi := ⟨some 224, _, _, _, _, _⟩) (v := ?_) rfl (by kernel_rfl) (by kernel_rfl) (by kernel_rfl) (fun _ _ _ h => h) (Or.inl ⟨by rfl, ?_⟩) (by assumption) ?_
              rotate_left
              · (intro w hSw; (try dsimp only at hSw); go_split_ands; go_simp); try (with_reducible rfl)
              try simp only [Act.put, List.setIfInBounds_toArray, List.set_cons_zero, List.set_cons_succ]
              refine wpAnyH_take (i := 37) (oi := ⟨some 225, _, _, _, _, _⟩) (v := ?_) rfl (by kernel_rfl) (by kernel_rfl) (by kernel_rfl) (fun _ _ _ h => h) (Or.inl ⟨by rfl, ?_⟩) (by assumption) ?_
              rotate_left
              · (intro w hSw; (try dsimp only at hSw); go_split_ands; go_simp); try (with_reducible rfl)
              try simp only [Act.put, List.setIfInBounds_toArray, List.set_cons_zero, List.set_cons_succ]
              refine wpAnyH_take (i := 38) (oi := ⟨some 226, _, _, _, _, _⟩) (v := ?_) rfl (by kernel_rfl) (by kernel_rfl) (by kernel_rfl) (fun _ _ _ h => h) (Or.inl ⟨by rfl, ?_⟩) (by assumption) ?_
              rotate_left
              · (intro w hSw; (try dsimp only at hSw); go_split_ands; go_simp); try (with_reducible rfl)
              try simp only [Act.put, List.setIfInBounds_toArray, List.set_cons_zero, List.set_cons_succ]
              refine wpAnyH_take (i := 39) (oi := ⟨some 227, _, _, _, _, _⟩) (v := ?_) rfl (by kernel_rfl) (by kernel_rfl) (by kernel_rfl) (fun _ _ _ h => h) (Or.inl ⟨by rfl, ?_⟩) (by assumption) ?_
              rotate_left
              · (intro w hSw; (try dsimp only at hSw); go_split_ands; go_simp); try (with_reducible rfl)
              try simp only [Act.put, List.setIfInBounds_toArray, List.set_cons_zero, List.set_cons_succ]
              refine wpAnyH_take (i := 40) (oi := ⟨some 228, _, _, _, _, _⟩) (v := ?_) rfl (by kernel_rfl) (by kernel_rfl) (by kernel_rfl) (fun _ _ _ h => h) (Or.inl ⟨by rfl, ?_⟩) (by assumption) ?_
              rotate_left
              · (intro w hSw; (try dsimp only at hSw); go_split_ands; go_simp); try (with_reducible rfl)
              try simp only [Act.put, List.setIfInBounds_toArray, List.set_cons_zero, List.set_cons_succ]
              refine wpAnyH_take (i := 41) (oi := ⟨some 229, _, _, _, _, _⟩) (v := undef) rfl (by kernel_rfl) (by kernel_rfl) (by kernel_rfl) (fun _ _ _ h => h) (Or.inr ⟨by rfl, rfl⟩) (by assumption) ?_
              try simp only [Act.put, List.setIfInBounds_toArray, List.set_cons_zero, List.set_cons_succ]
              refine wpAnyH_take (i := 42) (oi := ⟨some 230, _, _, _, _, _⟩) (v := undef) rfl (by kernel_rfl) (by kernel_rfl) (by kernel_rfl) (fun _ _ _ h => h) (Or.inr ⟨by rfl, rfl⟩) (by assumption) ?_
              try simp only [Act.put, List.setIfInBounds_toArray, List.set_cons_zero, List.set_cons_succ]
              refine wpAnyH_take (i := 43) (oi := ⟨some 231, _, _, _, _, _⟩) (v := undef) rfl (by kernel_rfl) (by kernel_rfl) (by kernel_rfl) (fun _ _ _ h => h) (Or.inr ⟨by rfl, rfl⟩) (by assumption) ?_
              try simp only [Act.put, List.setIfInBounds_toArray, List.set_cons_zero, List.set_cons_succ]
              refine wpAnyH_take (i := 44) (oi := ⟨some 232, _, _, _, _, _⟩) (v := ?_) rfl (by kernel_rfl) (by kernel_rfl) (by kernel_rfl) (fun _ _ _ h => h) (Or.inl ⟨by rfl, ?_⟩) (by assumption) ?_
              rotate_left
              · (intro w hSw; (try dsimp only at hSw); go_split_ands; go_simp); try (with_reducible rfl)
              try simp only [Act.put, List.setIfInBounds_toArray, List.set_cons_zero, List.set_cons_succ]
              refine wpAnyH_take (i := 45) (oi := ⟨some 233, _, _, _, _, _⟩) (v := ?_) rfl (by kernel_rfl) (by kernel_rfl) (by kernel_rfl) (fun _ _ _ h => h) (Or.inl ⟨by rfl, ?_⟩) (by assumption) ?_
              rotate_left
              · (intro w hSw; (try dsimp only at hSw); go_split_ands; go_simp); try (with_reducible rfl)
              try simp only [Act.put, List.setIfInBounds_toArray, List.set_cons_zero, List.set_cons_succ]
              refine wpAnyH_done (by kernel_rfl) ?_ _
              go_wp2_with fail
              go_roundw
              case rel => exact ⟨k + 1, by omega, by go_num, Lib.hid ⟨N2, xs2, C2, cs2, m1, m2, m3, m4, H9.out.play.pop.pop⟩⟩
              case measure => simp [intOf]; omega
      · as_aux_lemma =>
          obtain rfl : k = len0 := by omega
          obtain ⟨N, xs, C, cs, hN, hxs, hcs, hrl, hpl⟩ := HR.out
          clear HR HRW
          obtain ⟨M, hM⟩ : ∃ M, xs.length = M := ⟨_, rfl⟩
          go_wp2_with fail
          go_loopw [20] (fun i wr => ∃ j : Nat, j ≤ M ∧ i = .int .i64 (j : Int) ∧ Hid (PlayAt w g r N xs C xs cs [] wr)) (fun i _ => M - (intOf i).toNat)
          case atStart => exact ⟨0, by omega, rfl, Lib.hid hpl⟩
          case round =>
            obtain ⟨j, hj, rfl, HQ⟩ := hrel
            obtain ⟨aL0, cL0, aC0, cC0, hf0⟩ := HQ.out.fix
            have r0 : wr.cell? ⟨r, 0, none⟩ = some (.slice aL0 M cL0) := hM ▸ hf0.cell
            clear hf0
            by_cases hjm : j < M
            · obtain ⟨p, hp1, hp2, hp3⟩ := in_get (xs := xs) (j := j) (by omega)
              obtain ⟨pf, pt, pd⟩ := p
              have kp := j_peek HQ.out (j : Int)
              rw [hp2, hp3] at kp
              dsimp only [agg] at kp
              have HG := Lib.hid hp1
              clear hp1 hp2 hp3
              go_upto_region 52 with (go_at_call 27; refine kp.mono ?_; rintro e w6 ⟨rfl, h6⟩; have H6 := Lib.hid h6; clear h6 kp)
              clear r0
              have h7 := H6.out.side_new (belowNew (belowSame w6) (.cells #[.int .i64 pf, .int .i64 pt, .string pd] 28)) (Blk.new w6 28 #[.int .i64 pf, .int .i64 pt, .string pd]) (Nat.le_refl _)
              obtain ⟨W7, hW⟩ : ∃ W, w6.alloc (.cells #[.int .i64 pf, .int .i64 pt, .string pd] 28) = W := ⟨_, rfl⟩
              obtain ⟨y21, hy⟩ : ∃ y, w6.heap.size = y := ⟨_, rfl⟩
              rw [hW, hy] at h7
              rw [hW, hy]
              clear hW hy
              obtain ⟨aL, cL, aC, cC, h7⟩ := h7.fix
              have hcap := h7.caps
              unfold maxLen at hcap
              obtain ⟨bL, rfl⟩ := h7.place (by omega)
              have i0 : (0 : Int) ≤ (j : Int) := by omega
              have i1 : (j : Int) < (M : Int) := by omega
              have h7d := h7.drew
              have HF := Lib.hid h7d
              clear h7
              have hS : W7.drew.cell? ⟨r, 0, none⟩ = some (.slice (some ⟨bL, 0, none⟩) M cL) ∧ W7.drew.cell? ⟨y21, 0, none⟩ = some (.int .i64 pf) ∧ W7.drew.cell? ⟨y21, 1, none⟩ = some (.int .i64 pt) ∧ W7.drew.cell? ⟨y21, 2, none⟩ = some (.string pd) ∧ W7.drew.cell? ⟨bL, j * 3, none⟩ = some (.int .i64 pf) ∧ W7.drew.cell? ⟨bL, j * 3 + 1, none⟩ = some (.int .i64 pt) ∧ W7.drew.cell? ⟨bL, j * 3 + 2, none⟩ = some (.string pd) := by
                exact ⟨hM ▸ h7d.cell, h7d.b0.cell 0, h7d.b0.cell 1, h7d.b0.cell 2, (h7d.cells HG.out).1, (h7d.cells HG.out).2.1, (h7d.cells HG.out).2.2⟩
              clear h7d
              refine wp_region_held_drew (S := (fun W => W.cell? ⟨r, 0, none⟩ = some (.slice (some ⟨bL, 0, none⟩) M cL) ∧ W.cell? ⟨y21, 0, none⟩ = some (.int .i64 pf) ∧ W.cell? ⟨y21, 1, none⟩ = some (.int .i64 pt) ∧ W.cell? ⟨y21, 2, none⟩ = some (.string pd) ∧ W.cell? ⟨bL, j * 3, none⟩ = some (.int .i64 pf) ∧ W.cell? ⟨bL, j * 3 + 1, none⟩ = some (.int .i64 pt) ∧ W.cell? ⟨bL, j * 3 + 2, none⟩ = some (.string pd))) (by kernel_rfl) hS (fun hHeld => ?_)
              clear hS
              refine wpAnyH_take (i := 0) (oi := ⟨some 249, _, _, _, _, _⟩) (v := ?_) rfl (by kernel_rfl) (by kernel_rfl) (by kernel_rfl) (fun _ _ _ h => h) (Or.inl ⟨by rfl, ?_⟩) (by assumption) ?_
              rotate_left
              · (intro w hSw; (try dsimp only at hSw); go_split_ands; go_simp); try (with_reducible rfl)
              try simp only [Act.put, List.setIfInBounds_toArray, List.set_cons_zero, List.set_cons_succ]
              refine wpAnyH_take (i := 1) (oi := ⟨some 250, _, _, _, _, _⟩) (v := ?_) rfl (by kernel_rfl) (by kernel_rfl) (by kernel_rfl) (fun _ _ _ h => h) (Or.inl ⟨by rfl, ?_⟩) (by assumption) ?_
              rotate_left
              · (intro w hSw; (try dsimp only at hSw); go_split_ands; go_simp); try (with_reducible rfl)
              try simp only [Act.put, List.setIfInBounds_toArray, List.set_cons_zero, List.set_cons_succ]
              refine wpAnyH_take (i := 2) (oi := ⟨some 251, _, _, _, _, _⟩) (v := ?_) rfl (by kernel_rfl) (by kernel_rfl) (by kernel_rfl) (fun _ _ _ h => h) (Or.inl ⟨by rfl, ?_⟩) (by assumption) ?_
              rotate_left
              · (intro w hSw; (try dsimp only at hSw); go_split_ands; go_simp); try (with_reducible rfl)
              try simp only [Act.put, List.setIfInBounds_toArray, List.set_cons_zero, List.set_cons_succ]
              refine wpAnyH_take (i := 3) (oi := ⟨some 252, _, _, _, _, _⟩) (v := ?_) rfl (by kernel_rfl) (by kernel_rfl) (by kernel_rfl) (fun _ _ _ h => h) (Or.inl ⟨by rfl, ?_⟩) (by assumption) ?_
              rotate_left
              · (intro w hSw; (try dsimp only at hSw); go_split_ands; go_simp); try (with_reducible rfl)
              try simp only [Act.put, List.setIfInBounds_toArray, List.set_cons_zero, List.set_cons_succ]
              refine wpAnyH_take (i := 4) (oi := ⟨some 253, _, _, _, _, _⟩) (v := ?_) rfl (by kernel_rfl) (by kernel_rfl) (by kernel_rfl) (fun _ _ _ h => h) (Or.inl ⟨by rfl, ?_⟩) (by assumption) ?_
              rotate_left
              · (intro w hSw; (try dsimp only at hSw); go_split_ands; go_simp); try (with_reducible rfl)
              try simp only [Act.put, List.setIfInBounds_toArray, List.set_cons_zero, List.set_cons_succ]
              refine wpAnyH_take (i := 5) (oi := ⟨some 254, _, _, _, _, _⟩) (v := ?_) rfl (by kernel_rfl) (by kernel_rfl) (by kernel_rfl) (fun _ _ _ h => h) (Or.inl ⟨by rfl, ?_⟩) (by assumption) ?_
              rotate_left
              · (intro w hSw; (try dsimp only at hSw); go_split_ands; go_simp); try (with_reducible rfl)
              try simp only [Act.put, List.setIfInBounds_toArray, List.set_cons_zero, List.set_cons_succ]
              refine wpAnyH_take (i := 6) (oi := ⟨some 255, _, _, _, _, _⟩) (v := ?_) rfl (by kernel_rfl) (by kernel_rfl) (by kernel_rfl) (fun _ _ _ h => h) (Or.inl ⟨by rfl, ?_⟩) (by assumption) ?_
              rotate_left
              · (intro w hSw; (try dsimp only at hSw); go_split_ands; go_simp); try (with_reducible rfl)
              try simp only [Act.put, List.setIfInBounds_toArray, List.set_cons_zero, List.set_cons_succ]
              refine wpAnyH_take (i := 7) (oi := ⟨some 256, _, _, _, _, _⟩) (v := ?_) rfl (by kernel_rfl) (by kernel_rfl) (by kernel_rfl) (fun _ _ _ h => h) (Or.inl ⟨by rfl, ?_⟩) (by assumption) ?_
              rotate_left
              · (intro w hSw; (try dsimp only at hSw); go_split_ands; go_simp); try (with_reducible rfl)
              try simp only [Act.put, List.setIfInBounds_toArray, List.set_cons_zero, List.set_cons_succ]
              refine wpAnyH_take (i := 8) (oi := ⟨some 257, _, _, _, _, _⟩) (v := ?_) rfl (by kernel_rfl) (by kernel_rfl) (by kernel_rfl) (fun _ _ _ h => h) (Or.inl ⟨by rfl, ?_⟩) (by assumption) ?_
              rotate_left
              · (intro w hSw; (try dsimp only at hSw); go_split_ands; go_simp); try (with_reducible rfl)
              try simp only [Act.put, List.setIfInBounds_toArray, List.set_cons_zero, List.set_cons_succ]
              refine wpAnyH_take (i := 9) (oi := ⟨some 258, _, _, _, _, _⟩) (v := ?_) rfl (by kernel_rfl) (by kernel_rfl) (by kernel_rfl) (fun _ _ _ h => h) (Or.inl ⟨by rfl, ?_⟩) (by assumption) ?_
              rotate_left
              · (intro w hSw; (try dsimp only at hSw); go_split_ands; go_simp); try (with_reducible rfl)
              try simp only [Act.put, List.setIfInBounds_toArray, List.set_cons_zero, List.set_cons_succ]
              refine wpAnyH_take (i := 10) (oi := ⟨some 259, _, _, _, _, _⟩) (v := ?_) rfl (by kernel_rfl) (by kernel_rfl) (by kernel_rfl) (fun _ _ _ h => h) (Or.inl ⟨by rfl, ?_⟩) (by assumption) ?_
              rotate_left
              · (intro w hSw; (try dsimp only at hSw); go_split_ands; go_simp); try (with_reducible rfl)
              try simp only [Act.put, List.setIfInBounds_toArray, List.set_cons_zero, List.set_cons_succ]
              have kq := same_any ⟨pf, pt, pd⟩ ⟨pf, pt, pd⟩ W7.drew
              rw [sameB_self] at kq
              dsimp only [agg] at kq
              refine wpAnyH_ready (rs := [11]) (by kernel_rfl) (by simp) ?_
              refine AllReadyH.cons (o := ⟨some 260, _, _, _, _, _⟩) rfl (fun K hK => ?_) AllReadyH.nil
              go_simp
              refine kq.mono ?_
              rintro e w9 ⟨rfl, hb⟩
              have H9 := Lib.hid (HF.out.then_ hb)
              clear hb kq HF
              try (go_wp2_with fail)
              refine hK.out _ _ ?_ (fun hHeld => ?_)
              · exact ⟨hM ▸ H9.out.cell, H9.out.b0.cell 0, H9.out.b0.cell 1, H9.out.b0.cell 2, (H9.out.cells HG.out).1, (H9.out.cells HG.out).2.1, (H9.out.cells HG.out).2.2⟩
              clear hK K
              refine wpAnyH_take (i := 12) (oi := ⟨some 261, _, _, _, _, _⟩) (v := ?_) rfl (by kernel_rfl) (by kernel_rfl) (by kernel_rfl) (fun _ _ _ h => h) (Or.inl ⟨by rfl, ?_⟩) (by assumption) ?_
              rotate_left
              · (intro w hSw; (try dsimp only at hSw); go_split_ands; go_simp); try (with_reducible rfl)
              try simp only [Act.put, List.setIfInBounds_toArray, List.set_cons_zero, List.set_cons_succ]
              refine wpAnyH_take (i := 13) (oi := ⟨some 262, _, _, _, _, _⟩) (v := ?_) rfl (by kernel_rfl) (by kernel_rfl) (by kernel_rfl) (fun _ _ _ h => h) (Or.inl ⟨by rfl, ?_⟩) (by assumption) ?_
              rotate_left
              · (intro w hSw; (try dsimp only at hSw); go_split_ands; go_simp); try (with_reducible rfl)
              try simp only [Act.put, List.setIfInBounds_toArray, List.set_cons_zero, List.set_cons_succ]
              refine wpAnyH_done (by kernel_rfl) ?_ _
              go_wp2_with fail
              go_roundw
              case rel => exact ⟨j + 1, by omega, by go_num, Lib.hid H9.out.play.pop⟩
              case measure => simp [intOf]; omega
            · go_wp2_with (go_at_call 7; refine (ka _).mono ?_; rintro x w9 ⟨rfl, hb⟩; have HB9 := Lib.hid (belowThen HQ.out.bel hb); clear hb)
              exact end_ret (t := 4) (v := .bool true) (by kernel_rfl) rfl rfl ⟨rfl, HB9.out⟩
end Go.Proofs.Ytanhdcffbdhkcaa.NP
