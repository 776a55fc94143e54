/- RingPlays: every ring, and every call, in every order; what is handed in stays; lists kept, marked, grown. No condition. -/
import Derived.Test.YthnlfgogibjbnaaGreatRbIn
import Derived.Deep.CutBlock
import Derived.Deep.Cut
import Derived.Carry
import Derived.Deep.RegionHeld3
namespace Go.Proofs.YthnlfgogibjbnaaGreat.RB
set_option maxRecDepth 100000
set_option maxRecDepth 100000
open Go.RowKit Go.Proofs.YthnlfgogibjbnaaGreat.Bk
set_option linter.unusedVariables false
set_option linter.unusedSimpArgs false

theorem own_side {w : World} {B b n c : Nat} {xs : List Value} (h : w.ownsRow B TI 1 (.slice (some ⟨b, 0, none⟩) n c) n xs) : ∃ cur, Blk w b TI cur ∧ B ≤ b ∧ ∀ w', Blk w' b TI cur → w'.ownsRow B TI 1 (.slice (some ⟨b, 0, none⟩) n c) n xs := by
  rcases h.2 with ⟨e, _⟩ | ⟨g, cap, cur, e, hb, hh, rest⟩
  · cases e
  · injection e with e1 e2 e3
    injection e1 with e1
    injection e1 with e1 _
    subst e1 e3
    exact ⟨cur, hh, hb, fun w' hw => ⟨h.1, .inr ⟨_, _, cur, rfl, hb, hw, rest⟩⟩⟩
theorem own_front {w : World} {B b n c : Nat} {xs : List Int} {y : Value} (h : w.ownsRow B TI 1 (.slice (some ⟨b, 0, none⟩) (n + 1) c) (n + 1) (xs.map val ++ [y])) (hl : xs.length = n) : Lies w 1 (some ⟨b, 0, none⟩) n (xs.map val) := own_take h (by omega) (by simp [hl])
def PQuiet (w : World) (e : Ending) (w' : World) : Prop := e = .returned (.bool true) ∧ Below w.heap.size w w'
section
variable {w W W' : World} {g k most N j cx : Nat} {xs ys : List Int} {ax : Option Addr} {L M : List Ls} {bl : List (Nat × TypeId × Array Value)}
theorem side_lent (h : RpAt w g k most xs ys ax cx L M bl W) {b n c : Nat} {zs : List Value} (ho : W'.ownsRow W.heap.size TI 1 (.slice (some ⟨b, 0, none⟩) n c) n zs) (hb : Below W.heap.size W W') : ∃ cur, RpAt w g k most xs ys ax cx L M ((b, TI, cur) :: bl) W' ∧ ∀ w', Blk w' b TI cur → w'.ownsRow W.heap.size TI 1 (.slice (some ⟨b, 0, none⟩) n c) n zs := by
  obtain ⟨cur, h1, h2, h3⟩ := own_side ho
  exact ⟨cur, h.side_new hb h1 h2, h3⟩
/-- The state at a round's head. -/
def Rnd (w : World) (g k most j N : Nat) (ax : Option Addr) (cx : Nat) (W : World) : Prop := ∃ xs L M, xs.length = N ∧ N ≤ 60 * j ∧ L.length = j ∧ M.length = j ∧ M.map (fun l : Ls => l.xs) = L.map (fun l : Ls => l.xs) ∧ (∀ l ∈ L, l.xs.length ≤ 10000) ∧ RpAt w g k most xs xs ax cx L M [] W
end
/-- Behind the switch. -/
def Mid (w : World) (g k most j y12 : Nat) (vs : Array Value) (L M : List Ls) (N : Nat) (ax : Option Addr) (cx : Nat) (W : World) : Prop := ∃ xs, xs.length = N ∧ N ≤ 60 * (j + 1) ∧ RpAt w g k most xs xs ax cx L M [(y12, 49, vs)] W
theorem rnd_next {w W : World} {g k most j N cx a7c y12 : Nat} {vs : Array Value} {xs : List Int} {ax a7 : Option Addr} {L M : List Ls} {s : Ls} {D : Prop} (h1 : xs.length = N) (h2 : N ≤ 60 * (j + 1) ∧ D) (h3 : L.length = j ∧ M.length = j ∧ M.map (fun l : Ls => l.xs) = L.map (fun l : Ls => l.xs) ∧ (∀ l ∈ L, l.xs.length ≤ 10000) ∧ j ≤ 100) (h4 : s.xs = xs) (h5 : RpAt w g k most xs xs ax cx (L ++ [⟨a7, a7c, xs⟩]) (M ++ [s]) [(y12, 49, vs)] W) : Rnd w g k most (j + 1) N ax cx W := by
  refine ⟨xs, _, _, h1, h2.1, by simp [h3.1], by simp [h3.2.1], by simp [h3.2.2.1, h4], fun l hl => ?_, h5.pop⟩
  rcases List.mem_append.1 hl with hl | hl
  · exact h3.2.2.2.1 l hl
  · simp at hl; subst hl; have := h2.1; have := h3.2.2.2.2; dsimp only; omega
theorem end_below {w W : World} {g k most cx cI cW : Nat} {xs ys : List Int} {ax aI aW : Option Addr} {L M : List Ls} {bl : List (Nat × TypeId × Array Value)} (h : RpAt w g k most xs ys ax cx L M bl W) (hb : BookAt W w.heap.size k aI cI aW cW L M) : ∀ w9 w10, Below W.heap.size W w9 → Keeps (listsF aI L) w9 w10 → Below w.heap.size w w10 := fun w9 w10 h1 h2 =>
  h2.after (belowThen h.bel h1) (fun b hq => (hb.i.lt b hq).1) (Nat.le_trans hb.base h1.size)
set_option maxHeartbeats 4000000 in
theorem plays_long (w : World) (room : Int) (zero : Bool) (a0 : Option Addr) (len0 cap0 : Nat) (hl : 100 < len0) : Calls Tryz.prog 3 #[.int .i64 room, .bool zero, .slice a0 len0 cap0] w (PQuiet w) := by
  have ka := fun W => RI.alive_any W
  unfold RI.Quiet at ka
  have d0 : (100 : Int) < (len0 : Int) := by omega
  clear hl
  go_enter Tryz.func3, Tryz.ntmps3
  go_wp2_with (go_at_call 4; refine (ka _).mono ?_; rintro x w1 ⟨rfl, hb⟩; have HB1 := Lib.hid hb; clear hb)
  exact end_ret (t := 6) (v := .bool true) (by kernel_rfl) rfl rfl ⟨rfl, HB1.out⟩
set_option maxHeartbeats 16000000 in
theorem plays_go (w : World) (room : Int) (zero : Bool) (a0 : Option Addr) (len0 cap0 : Nat) (os : List OpN) (h : OpsIs w a0 len0 cap0 os) (hl : len0 ≤ 100) : Calls Tryz.prog 3 #[.int .i64 room, .bool zero, .slice a0 len0 cap0] w (PQuiet w) := by
  have ka := fun W => RI.alive_any W
  unfold RI.Quiet at ka
  obtain ⟨i0, hi, hz0, hz1, hz2⟩ := info_parts infoI
  have kn := RI.new_any room w
  have d0 : ¬ (100 : Int) < (len0 : Int) := by omega
  obtain ⟨hlc, hcm, hol, hok, hrow⟩ := h
  have HOK := Lib.hid hok
  have HOL := Lib.hid hol
  have HRW := Lib.hid hrow
  clear hok hol hrow
  unfold maxLen at hcm
  have hrm : RI.roomOf room ≤ 100000 := by unfold RI.roomOf; omega
  obtain ⟨rm, hrm2⟩ : ∃ rm, RI.roomOf room = rm := ⟨_, rfl⟩
  have kr := fun W => room_ref room W
  rw [hrm2] at kn hrm kr
  clear hrm2
  go_enter Tryz.func3, Tryz.ntmps3
  go_upto_if 32 with (first
    | (go_at_call 5; refine kn.mono ?_; rintro e w1 ⟨rfl, h1, h2⟩; have H1 := Lib.hid h1; have H2 := Lib.hid h2.belowW; clear h1 h2 kn)
    | (go_at_call 6; refine (kr _).mono ?_; rintro e w' ⟨rfl, rfl⟩; clear kr))
  go_cut [7, 8] from 33 to 34 (fun r m wx => ∃ (g most : Nat), r = .pointer (some ⟨g, 0, none⟩) ∧ m = .int .i64 (most : Int) ∧ Hid (most ≤ 100000 ∧ Below w.heap.size w wx ∧ ∃ a c, RingAt RI.val TR TI wx w.heap.size g most a c []))
  case first =>
    cases zero
    · go_wp2_with fail
      go_meet
      exact ⟨_, rm, rfl, rfl, Lib.hid ⟨hrm, H2.out, _, _, H1.out⟩⟩
    · have HZ := Lib.hid (And.intro (belowNew H2.out (.cells #[.slice none 0 0, .int .i64 0] TR)) (zero_ring H2.out))
      go_wp2_with fail
      go_meet
      exact ⟨_, 0, rfl, rfl, Lib.hid ⟨by omega, HZ.out.1, _, _, HZ.out.2⟩⟩
  case rest =>
    obtain ⟨g, most, rfl, rfl, HC⟩ := hcut
    obtain ⟨hmost, hbel, ra, rc, hring⟩ := HC.out
    have hst := RpAt.start hring hbel
    clear HC H1 H2 hbel hring
    go_upto_region 11 with fail
    obtain ⟨W1, hW1⟩ : ∃ W, wc.alloc (.cells (bcells nils nils) TB) = W := ⟨_, rfl⟩
    obtain ⟨k, hk⟩ : ∃ k, wc.heap.size = k := ⟨_, rfl⟩
    rw [hW1, hk] at hst
    rw [show wc.alloc (.cells #[.slice none 0 0, .slice none 0 0, .slice none 0 0, .slice none 0 0, .slice none 0 0, .slice none 0 0, .slice none 0 0, .slice none 0 0, .slice none 0 0, .slice none 0 0, .slice none 0 0, .slice none 0 0, .slice none 0 0, .slice none 0 0, .slice none 0 0, .slice none 0 0, .slice none 0 0, .slice none 0 0, .slice none 0 0, .slice none 0 0, .slice none 0 0, .slice none 0 0, .slice none 0 0, .slice none 0 0, .slice none 0 0, .slice none 0 0, .slice none 0 0, .slice none 0 0, .slice none 0 0, .slice none 0 0] 47) = W1 from hW1]
    rw [hk]
    have HST := Lib.hid hst
    clear hst hW1 hk
    go_wp2_with fail
    go_loopw [9, 11] (fun x q wr => ∃ (i N : Nat) (ax : Option Addr) (cx : Nat), i ≤ len0 ∧ q = .int .i64 (i : Int) ∧ x = .slice ax N cx ∧ Hid (Rnd w g k most i N ax cx wr)) (fun _ q _ => len0 - (intOf q).toNat)
    case atStart => exact ⟨0, 0, none, 0, by omega, rfl, rfl, Lib.hid ⟨[], [], [], rfl, by omega, rfl, rfl, rfl, (fun l hl => by cases hl), HST.out⟩⟩
    case round =>
      obtain ⟨i, N, ax, cx, hi9, rfl, rfl, HR⟩ := hrel
      by_cases hlt : i < len0
      · obtain ⟨b0, off0, rfl, hb0, hcell⟩ := HRW.out (by omega)
        obtain ⟨o, ho⟩ : ∃ o, os[i]? = some o := ⟨_, List.getElem?_eq_getElem (by rw [HOL.out]; exact hlt)⟩
        have hoo := HOK.out o (List.mem_of_getElem? ho)
        have hcc := hcell i o ho
        obtain ⟨kd, oa, ob, pa, pn, pc, ps⟩ := o
        obtain ⟨wk, wa, wb, hP⟩ := hoo
        dsimp only at wk wa wb hP
        obtain ⟨xs, L, M, r1, r2, r3, r4, r5, r6, r7⟩ := HR.out
        have hbl := r7.bel
        have x0 : wr.cell? ⟨b0, off0 + i * 4, none⟩ = some (Value.int .i64 kd) := (hbl.cell (p := ⟨b0, off0 + i * 4, none⟩) hb0).trans (by have := hcc 0 _ rfl; rwa [← Nat.add_assoc] at this)
        have x1 : wr.cell? ⟨b0, off0 + i * 4 + 1, none⟩ = some (Value.int .i64 oa) := (hbl.cell (p := ⟨b0, off0 + i * 4 + 1, none⟩) hb0).trans (by have := hcc 1 _ rfl; rwa [← Nat.add_assoc] at this)
        have x2 : wr.cell? ⟨b0, off0 + i * 4 + 2, none⟩ = some (Value.int .i64 ob) := (hbl.cell (p := ⟨b0, off0 + i * 4 + 2, none⟩) hb0).trans (by have := hcc 2 _ rfl; rwa [← Nat.add_assoc] at this)
        have x3 : wr.cell? ⟨b0, off0 + i * 4 + 3, none⟩ = some (Value.slice pa pn pc) := (hbl.cell (p := ⟨b0, off0 + i * 4 + 3, none⟩) hb0).trans (by have := hcc 3 _ rfl; rwa [← Nat.add_assoc] at this)
        have hkc : (i : Int) < (cap0 : Int) := by omega
        have hpn := hP.1
        have hpm := hP.2.1
        unfold maxLen at hpm
        have e9 : IntKind.i64.wrap ((i : Int) + 1) = (i : Int) + 1 := IntWalk.i64_in _ (by omega)
        have HPK := Lib.hid hP
        have HXN := Lib.hid r1
        have HXN2 := Lib.hid (And.intro r2 hmost)
        have HLM := Lib.hid (And.intro r3 (And.intro r4 (And.intro r5 (And.intro r6 (Nat.le_of_lt (Nat.lt_of_lt_of_le hlt hl))))))
        have HWW := Lib.hid (And.intro wa wb)
        have h4 := r7.side_new (belowNew (belowSame wr) (.cells #[.int .i64 kd, .int .i64 oa, .int .i64 ob, .slice pa pn pc] 49)) (Blk.new wr 49 #[.int .i64 kd, .int .i64 oa, .int .i64 ob, .slice pa pn pc]) (Nat.le_refl _)
        go_upto_region 15 with fail
        obtain ⟨w5, hW4⟩ : ∃ W, wr.alloc (.cells #[.int .i64 kd, .int .i64 oa, .int .i64 ob, .slice pa pn pc] 49) = W := ⟨_, rfl⟩
        obtain ⟨y12, hy8⟩ : ∃ y, wr.heap.size = y := ⟨_, rfl⟩
        rw [hW4, hy8] at h4
        rw [hW4, hy8]
        have c0 : w5.cell? ⟨y12, 0, none⟩ = some (.int .i64 kd) := h4.b0.cell 0
        have c1 : w5.cell? ⟨y12, 1, none⟩ = some (.int .i64 oa) := h4.b0.cell 1
        have c2 : w5.cell? ⟨y12, 2, none⟩ = some (.int .i64 ob) := h4.b0.cell 2
        have c3 : w5.cell? ⟨y12, 3, none⟩ = some (.slice pa pn pc) := h4.b0.cell 3
        have H5 := Lib.hid h4
        have HL5 := Lib.hid (hP.lies.old (by decide) h4.bel)
        clear hb0 hcell ho hcc hP wk wa wb r1 r2 r3 r4 r5 r6 r7 hbl x0 x1 x2 x3 h4 hW4 hy8 HR
        by_cases hp60 : (60 : Int) < (pn : Int)
        · go_wp2_with fail
          exact end_ret (t := 6) (v := .bool true) (by kernel_rfl) rfl rfl ⟨rfl, H5.out.bel⟩
        have hn60 : pn ≤ 60 := by omega
        go_upto_block 2 with fail
        clear hp60
        go_cut [9, 13] from 55 to 172 (fun x gd wx => gd = .bool true ∧ ∃ (N' : Nat) (ax' : Option Addr) (cx' : Nat), x = .slice ax' N' cx' ∧ Hid (Mid w g k most i y12 #[.int .i64 kd, .int .i64 oa, .int .i64 ob, .slice pa pn pc] L M N' ax' cx' wx))
        case first =>
          by_cases q1 : kd = 1
          · subst q1
            as_aux_lemma =>
              have kl := lent_ints pa pn pc ps w5 HL5.out (by omega)
              go_upto_region 21 with (go_at_call 7; refine kl.mono ?_; rintro e w6 ⟨b1, e1, rfl, m1, m2, m3, m4⟩; have hos := own_side m3; have H6 := Lib.hid (side_lent H5.out m3 m4); clear m3 m4 kl hos)
              obtain ⟨cur, h6, hback⟩ := H6.out
              have hpl : ps.length = pn := HPK.out.2.2.1
              have hle := h6.le
              have hxN := HXN.out
              by_cases hmm : (most : Int) - (N : Int) < (pn : Int)
              · obtain ⟨q, hq⟩ : ∃ q, min pn (most - N) = q := ⟨_, rfl⟩
                have q1 : IntKind.i64.wrap ((most : Int) - (N : Int)) = (q : Int) := by rw [show (most : Int) - (N : Int) = (q : Int) by omega]; exact IntWalk.i64_in _ (by omega)
                have q2 : (q : Int) < (pn : Int) := by omega
                clear hmm
                have hqp : q ≤ pn := by omega
                have HB6 := Lib.hid hback
                have lb := own_front (hback w6 h6.b0) hpl
                have kp := h6.ring (P := fun e => e = .returned (.int .i64 (q : Int))) (f := 8) (args := #[.pointer (some ⟨g, 0, none⟩), .slice (some ⟨b1, 0, none⟩) pn e1]) (xs' := xs ++ ps.take q) fun hr => by
                  have := RI.push_any hr (some ⟨b1, 0, none⟩) pn e1 (by unfold maxLen; omega) (by omega) ps lb
                  rw [hxN, hq] at this
                  exact this
                have H7 := Lib.hid h6
                clear H6 h6 hback lb
                have c3 : w6.cell? ⟨y12, 3, none⟩ = some (.slice pa pn pc) := H7.out.b1.cell 3
                have c3 : w6.cell? ⟨y12, 3, none⟩ = some (.slice pa pn pc) := H7.out.b1.cell 3
                have HQ := Lib.hid (And.intro hq (And.intro hpl hxN))
                clear hq hpl hxN hle
                go_upto_region 22 with fail
                have ks := fun W (h : RpAt w g k most (xs ++ ps.take q) xs ax cx L M [(b1, TI, cur), (y12, 49, #[.int .i64 1, .int .i64 oa, .int .i64 ob, .slice pa pn pc])] W) => stays_ints b1 pn e1 pc pa ps W HQ.out.2.1 (own_front (HB6.out W h.b0) HQ.out.2.1) (lent_mark (HB6.out W h.b0) HQ.out.2.1) (HPK.out.lies.old (by decide) h.bel) (by omega) m1 m2
                have KS := Lib.hid ks
                clear ks q1 q2
                go_upto_region 23 with (first
                  | (go_at_call 8; refine kp.mono ?_; rintro e w7 ⟨rfl, h7⟩; have c3 : w7.cell? ⟨y12, 3, none⟩ = some (.slice pa pn pc) := h7.b1.cell 3; have k7 := KS.out w7 h7; have H8 := Lib.hid h7; clear h7 kp)
                  | (go_at_call 9; refine k7.mono ?_; rintro e w8 ⟨rfl, m8, rfl⟩; clear k7))
                have h9 := H8.out.drewN m8
                obtain ⟨W8, hW8⟩ : ∃ W, w7.drewN m8 = W := ⟨_, rfl⟩
                rw [hW8] at h9
                rw [hW8]
                clear hW8 c3
                have c3 : W8.drew.cell? ⟨y12, 3, none⟩ = some (.slice pa pn pc) := h9.b1.cell 3
                have hrow := h9.row
                rw [HQ.out.2.2] at hrow
                have hcx := own_caps hrow
                have hlx : Lies W8.drew 1 ax N (xs.map val) := Lies.of_own hrow
                have hlp : Lies W8 1 pa pn (ps.map val) := HPK.out.lies.old (by decide) h9.bel
                have hbas := h9.bel.size
                have H9 := Lib.hid h9
                have hN6 : N ≤ 6000 := by have := HXN2.out.1; omega
                have hqc : q ≤ pc := by omega
                have f80 : ∀ (w9 : World) (a9 : Option Addr) (c9 : Nat), w9.ownsRow W8.drew.heap.size TI 1 (.slice a9 (0 + N) c9) (0 + N) ([] ++ xs.map val) → W8.drew.grownBy w9 (Value.slice none 0 0).ownBlock →
                    w9.ownsRow W8.drew.heap.size TI 1 (.slice a9 N c9) N (xs.map val) ∧ Below W8.heap.size W8 w9 ∧ w9.cell? ⟨y12, 3, none⟩ = some (.slice pa pn pc) ∧ Lies w9 1 pa q ((ps.take q).map val) := by
                  intro w9 a9 c9 ho hg
                  have hb : Below W8.heap.size W8 w9 := belowUndrew (row_first hg)
                  refine ⟨by simpa using ho, hb, (H9.out.then_ hb).b1.cell 3, ?_⟩
                  have := (hlp.old (by decide) hb).take (k := q) hqp
                  simpa using this
                have f85 : ∀ (w9 wz : World) (a9 az : Option Addr) (c9 cz : Nat), w9.ownsRow W8.drew.heap.size TI 1 (.slice a9 N c9) N (xs.map val) → Below W8.heap.size W8 w9 → wz.ownsRow W8.drew.heap.size TI 1 (.slice az (N + q) cz) (N + q) (xs.map val ++ (ps.take q).map val) → w9.grownBy wz (Value.slice a9 0 0).ownBlock →
                    RpAt w g k most (xs ++ ps.take q) (xs ++ ps.take q) az cz L M [(b1, TI, cur), (y12, 49, #[.int .i64 1, .int .i64 oa, .int .i64 ob, .slice pa pn pc])] wz := by
                  intro w9 wz a9 az c9 cz ho9 hb9 ho hg
                  have hbz : Below W8.heap.size W8 wz := row_more (w := W8) ho9 hb9 hg
                  rw [← List.map_append] at ho
                  exact H9.out.newx hbz ho (by have h1 := HQ.out.2.1; have h2 := HQ.out.2.2; simp; omega)
                have F80 := Lib.hid f80
                have F85 := Lib.hid f85
                clear f80 f85 h9 hrow hlp
                go_region_law (first
                  | (refine step_append_lie _ rfl (.tmp 80) (.tmp 84) 27 rfl W8.drew.heap.size TI i0 _ 1 8 Tryz.underlying27 hi hz0 hz1 hz2 rfl (by decide) a9 N c9 (xs.map val) (by go_simp) r9 pa q pc ((ps.take q).map val) (by go_simp) l9 (ones _) (by unfold maxLen; omega) (by omega) hs9 ?_; intro az cz wz ho hg hat; have HZ := Lib.hid (F85.out w9 wz a9 az c9 cz r9 B9.out ho hg); clear ho hg hat)
                  | (refine step_append_lie _ rfl (.const (.slice none 0 0)) (.tmp 79) 27 rfl W8.drew.heap.size TI i0 _ 1 8 Tryz.underlying27 hi hz0 hz1 hz2 rfl (by decide) none 0 0 [] (by go_simp) (World.ownsRow_nil _ _ _ _) ax N cx (xs.map val) (by go_simp) hlx (ones _) (by unfold maxLen; omega) (by omega) (Nat.le_refl _) ?_; intro a9 c9 w9 ho hg hat; (rw [Nat.zero_add]); have hs9 := hg.size; obtain ⟨r9, b9, x9, l9⟩ := F80.out w9 a9 c9 ho hg; have B9 := Lib.hid b9; clear ho hg hat b9))
                all_goals
                  go_wp2_with fail
                  go_meet
                  exact ⟨rfl, N + q, az, cz, rfl, Lib.hid ⟨xs ++ ps.take q, by have h1 := HQ.out.2.1; have h2 := HQ.out.2.2; simp; omega, by have := HXN2.out.1; omega, HZ.out.pop⟩⟩
              · have hq : min pn (most - N) = pn := by omega
                obtain ⟨D, hD⟩ : ∃ D : Int, (most : Int) - (N : Int) = D := ⟨_, rfl⟩
                have q1 : IntKind.i64.wrap ((most : Int) - (N : Int)) = D := by rw [hD]; exact IntWalk.i64_in _ (by omega)
                have q2 : ¬ D < (pn : Int) := by omega
                clear hmm hD
                have hqp : pn ≤ pn := by omega
                have HB6 := Lib.hid hback
                have lb := own_front (hback w6 h6.b0) hpl
                have kp := h6.ring (P := fun e => e = .returned (.int .i64 (pn : Int))) (f := 8) (args := #[.pointer (some ⟨g, 0, none⟩), .slice (some ⟨b1, 0, none⟩) pn e1]) (xs' := xs ++ ps.take pn) fun hr => by
                  have := RI.push_any hr (some ⟨b1, 0, none⟩) pn e1 (by unfold maxLen; omega) (by omega) ps lb
                  rw [hxN, hq] at this
                  exact this
                have H7 := Lib.hid h6
                clear H6 h6 hback lb
                have c3 : w6.cell? ⟨y12, 3, none⟩ = some (.slice pa pn pc) := H7.out.b1.cell 3
                have c3 : w6.cell? ⟨y12, 3, none⟩ = some (.slice pa pn pc) := H7.out.b1.cell 3
                have HQ := Lib.hid (And.intro hq (And.intro hpl hxN))
                clear hq hpl hxN hle
                go_upto_region 22 with fail
                have ks := fun W (h : RpAt w g k most (xs ++ ps.take pn) xs ax cx L M [(b1, TI, cur), (y12, 49, #[.int .i64 1, .int .i64 oa, .int .i64 ob, .slice pa pn pc])] W) => stays_ints b1 pn e1 pc pa ps W HQ.out.2.1 (own_front (HB6.out W h.b0) HQ.out.2.1) (lent_mark (HB6.out W h.b0) HQ.out.2.1) (HPK.out.lies.old (by decide) h.bel) (by omega) m1 m2
                have KS := Lib.hid ks
                clear ks q1 q2
                go_upto_region 23 with (first
                  | (go_at_call 8; refine kp.mono ?_; rintro e w7 ⟨rfl, h7⟩; have c3 : w7.cell? ⟨y12, 3, none⟩ = some (.slice pa pn pc) := h7.b1.cell 3; have k7 := KS.out w7 h7; have H8 := Lib.hid h7; clear h7 kp)
                  | (go_at_call 9; refine k7.mono ?_; rintro e w8 ⟨rfl, m8, rfl⟩; clear k7))
                have h9 := H8.out.drewN m8
                obtain ⟨W8, hW8⟩ : ∃ W, w7.drewN m8 = W := ⟨_, rfl⟩
                rw [hW8] at h9
                rw [hW8]
                clear hW8 c3
                have c3 : W8.drew.cell? ⟨y12, 3, none⟩ = some (.slice pa pn pc) := h9.b1.cell 3
                have hrow := h9.row
                rw [HQ.out.2.2] at hrow
                have hcx := own_caps hrow
                have hlx : Lies W8.drew 1 ax N (xs.map val) := Lies.of_own hrow
                have hlp : Lies W8 1 pa pn (ps.map val) := HPK.out.lies.old (by decide) h9.bel
                have hbas := h9.bel.size
                have H9 := Lib.hid h9
                have hN6 : N ≤ 6000 := by have := HXN2.out.1; omega
                have hqc : pn ≤ pc := by omega
                have f80 : ∀ (w9 : World) (a9 : Option Addr) (c9 : Nat), w9.ownsRow W8.drew.heap.size TI 1 (.slice a9 (0 + N) c9) (0 + N) ([] ++ xs.map val) → W8.drew.grownBy w9 (Value.slice none 0 0).ownBlock →
                    w9.ownsRow W8.drew.heap.size TI 1 (.slice a9 N c9) N (xs.map val) ∧ Below W8.heap.size W8 w9 ∧ w9.cell? ⟨y12, 3, none⟩ = some (.slice pa pn pc) ∧ Lies w9 1 pa pn ((ps.take pn).map val) := by
                  intro w9 a9 c9 ho hg
                  have hb : Below W8.heap.size W8 w9 := belowUndrew (row_first hg)
                  refine ⟨by simpa using ho, hb, (H9.out.then_ hb).b1.cell 3, ?_⟩
                  have := (hlp.old (by decide) hb).take (k := pn) hqp
                  simpa using this
                have f85 : ∀ (w9 wz : World) (a9 az : Option Addr) (c9 cz : Nat), w9.ownsRow W8.drew.heap.size TI 1 (.slice a9 N c9) N (xs.map val) → Below W8.heap.size W8 w9 → wz.ownsRow W8.drew.heap.size TI 1 (.slice az (N + pn) cz) (N + pn) (xs.map val ++ (ps.take pn).map val) → w9.grownBy wz (Value.slice a9 0 0).ownBlock →
                    RpAt w g k most (xs ++ ps.take pn) (xs ++ ps.take pn) az cz L M [(b1, TI, cur), (y12, 49, #[.int .i64 1, .int .i64 oa, .int .i64 ob, .slice pa pn pc])] wz := by
                  intro w9 wz a9 az c9 cz ho9 hb9 ho hg
                  have hbz : Below W8.heap.size W8 wz := row_more (w := W8) ho9 hb9 hg
                  rw [← List.map_append] at ho
                  exact H9.out.newx hbz ho (by have h1 := HQ.out.2.1; have h2 := HQ.out.2.2; simp; omega)
                have F80 := Lib.hid f80
                have F85 := Lib.hid f85
                clear f80 f85 h9 hrow hlp
                go_region_law (first
                  | (refine step_append_lie _ rfl (.tmp 80) (.tmp 84) 27 rfl W8.drew.heap.size TI i0 _ 1 8 Tryz.underlying27 hi hz0 hz1 hz2 rfl (by decide) a9 N c9 (xs.map val) (by go_simp) r9 pa pn pc ((ps.take pn).map val) (by go_simp) l9 (ones _) (by unfold maxLen; omega) (by omega) hs9 ?_; intro az cz wz ho hg hat; have HZ := Lib.hid (F85.out w9 wz a9 az c9 cz r9 B9.out ho hg); clear ho hg hat)
                  | (refine step_append_lie _ rfl (.const (.slice none 0 0)) (.tmp 79) 27 rfl W8.drew.heap.size TI i0 _ 1 8 Tryz.underlying27 hi hz0 hz1 hz2 rfl (by decide) none 0 0 [] (by go_simp) (World.ownsRow_nil _ _ _ _) ax N cx (xs.map val) (by go_simp) hlx (ones _) (by unfold maxLen; omega) (by omega) (Nat.le_refl _) ?_; intro a9 c9 w9 ho hg hat; (rw [Nat.zero_add]); have hs9 := hg.size; obtain ⟨r9, b9, x9, l9⟩ := F80.out w9 a9 c9 ho hg; have B9 := Lib.hid b9; clear ho hg hat b9))
                all_goals
                  go_wp2_with fail
                  go_meet
                  exact ⟨rfl, N + pn, az, cz, rfl, Lib.hid ⟨xs ++ ps.take pn, by have h1 := HQ.out.2.1; have h2 := HQ.out.2.2; simp; omega, by have := HXN2.out.1; omega, HZ.out.pop⟩⟩
          have e1 : (kd == 1) = false := by simp [q1]
          by_cases q2 : kd = 2
          · subst q2
            as_aux_lemma =>
              rcases xs with _ | ⟨x0, xs⟩
              · obtain rfl : N = 0 := by have := HXN.out; simpa using this.symm
                have kp := fun (hr : ∃ a c, RingAt RI.val TR TI w5 w.heap.size g most a c ([] : List Int)) => RI.pop_nil hr.choose_spec.choose_spec
                have kp := kp H5.out.ringAt
                go_wp2_with (go_at_call 10; refine kp.mono ?_; rintro e w6 ⟨rfl, rfl⟩)
                go_meet
                exact ⟨rfl, 0, ax, cx, rfl, Lib.hid ⟨[], rfl, by omega, H5.out⟩⟩
              · have hxl : xs.length + 1 = N := by have := HXN.out; simpa using this
                obtain ⟨N2, hN2⟩ : ∃ N2, xs.length = N2 := ⟨_, rfl⟩
                obtain rfl : N = N2 + 1 := by omega
                have kp := H5.out.ring (P := fun e => e = .returned (.tuple #[.int .i64 x0, .bool true])) (f := 10) (args := #[.pointer (some ⟨g, 0, none⟩)]) (xs' := xs) fun hr => RI.pop_cons hr
                have d0 : (0 : Int) < (N2 : Int) + 1 := by omega
                go_upto_region 26 with (go_at_call 10; refine kp.mono ?_; rintro e w6 ⟨rfl, h6⟩; have H6 := Lib.hid h6; clear h6 kp)
                clear c0 c1 c2 c3
                have hrow := H6.out.row
                rw [show (x0 :: xs).length = N2 + 1 by simp [hN2]] at hrow
                obtain ⟨bx, rfl⟩ := own_place hrow (by omega)
                have hcx := own_caps hrow
                have x00 : w6.cell? ⟨bx, 0, none⟩ = some (.int .i64 x0) := by
                  have := hrow.cells (g := bx) rfl 0 (.int .i64 x0) (by simp)
                  rwa [Go.WideShapes.add_plain] at this
                have hlc := (Lies.of_own hrow).cut (k := 1) (by omega) hcx.1
                rw [show N2 + 1 - 1 = N2 by omega, show (List.map val (x0 :: xs)).drop 1 = xs.map val by simp] at hlc
                have hN6 : N2 ≤ 6000 := by have := HXN2.out.1; omega
                have hcm := hcx.2
                unfold maxLen at hcm
                have hc1 : 1 ≤ cx := by have := hcx.1; omega
                have hc2 : (N2 : Int) + 1 ≤ (cx : Int) := by have := hcx.1; omega
                have HN2 := Lib.hid hN2
                clear hrow hxl hN2 hcx
                go_wp2_with (at_builtin; refine wpList_append_lie _ rfl _ _ 27 rfl w6.heap.size TI i0 _ 1 8 Tryz.underlying27 hi hz0 hz1 hz2 rfl (by decide) none 0 0 [] rfl (World.ownsRow_nil _ _ _ _) _ N2 (cx - 1) (xs.map val) rfl hlc (ones _) (by unfold maxLen; omega) (by omega) (Nat.le_refl _) ?_; intro a9 c9 w9 ho hg hat; (simp only [Nat.zero_add, List.nil_append] at ho ⊢); have H9 := Lib.hid (H6.out.newx (row_first hg) ho HN2.out); clear ho hg hat)
                all_goals
                  go_meet
                  exact ⟨rfl, N2, a9, c9, rfl, Lib.hid ⟨xs, HN2.out, by have := HXN2.out.1; omega, H9.out⟩⟩
          have e2 : (kd == 2) = false := by simp [q2]
          by_cases q4 : kd = 4
          · subst q4
            as_aux_lemma =>
              by_cases hin : 0 ≤ oa ∧ oa < (N : Int)
              · obtain ⟨j, rfl⟩ : ∃ j : Nat, oa = (j : Int) := ⟨oa.toNat, by omega⟩
                have hjN : j < N := by omega
                have d0 : (0 : Int) ≤ (j : Int) := by omega
                have d1 : (j : Int) < (N : Int) := by omega
                have kp := H5.out.ring (P := fun e => e = .returned (.bool true)) (f := 11) (args := #[.pointer (some ⟨g, 0, none⟩), .int .i64 (j : Int), .int .i64 ob]) (xs' := xs.set j ob) fun hr => by
                  have := RI.set_in hr (j : Int) ob (by omega) (by have := HXN.out; omega)
                  exact this.mono fun e w' ⟨h1, h2, h3⟩ => ⟨h1, _, _, h2, h3, Grows.refl _ _⟩
                go_upto_region 33 with (go_at_call 11; refine kp.mono ?_; rintro e w6 ⟨rfl, h6⟩; have H6 := Lib.hid h6; clear h6 kp)
                clear c0 c1 c2 c3
                have hrow := H6.out.row
                rw [HXN.out] at hrow
                have hN6 : N ≤ 6000 := by have := HXN2.out.1; omega
                have hlx := Lies.of_own hrow
                clear hrow hin
                go_upto_region 35 with (at_builtin; refine wpList_append_lie _ rfl _ _ 27 rfl w6.heap.size TI i0 _ 1 8 Tryz.underlying27 hi hz0 hz1 hz2 rfl (by decide) none 0 0 [] rfl (World.ownsRow_nil _ _ _ _) ax N cx (xs.map val) rfl hlx (ones _) (by unfold maxLen; omega) (by omega) (Nat.le_refl _) ?_; intro a9 c9 w9 ho hg hat; (simp only [Nat.zero_add, List.nil_append] at ho ⊢); have H9 := Lib.hid (H6.out.newx (row_first hg) ho HXN.out); clear ho hg hat)
                obtain ⟨bz, uz, rfl, y1, y2, hz⟩ := H9.out.setx (j := j) (by have := HXN.out; omega) ob
                have c0 : w9.cell? ⟨y12, 0, none⟩ = some (.int .i64 4) := H9.out.b0.cell 0
                have c1 : w9.cell? ⟨y12, 1, none⟩ = some (.int .i64 (j : Int)) := H9.out.b0.cell 1
                have c2 : w9.cell? ⟨y12, 2, none⟩ = some (.int .i64 ob) := H9.out.b0.cell 2
                have c3 : w9.cell? ⟨y12, 3, none⟩ = some (.slice pa pn pc) := H9.out.b0.cell 3
                have HZ := Lib.hid hz
                clear hz hlx
                go_wp2_with fail
                go_meet
                exact ⟨rfl, N, _, c9, rfl, Lib.hid ⟨xs.set j ob, by simp [HXN.out], by have := HXN2.out.1; omega, HZ.out⟩⟩
              · have kp := fun (hr : ∃ a c, RingAt RI.val TR TI w5 w.heap.size g most a c xs) => RI.set_out hr.choose_spec.choose_spec oa ob (by have := HXN.out; omega)
                have kp := kp H5.out.ringAt
                by_cases hneg : oa < 0
                · have d0 : ¬ (0 : Int) ≤ oa := by omega
                  clear hin
                  go_wp2_with (go_at_call 11; refine kp.mono ?_; rintro e w6 ⟨rfl, rfl⟩)
                  go_meet
                  exact ⟨rfl, N, ax, cx, rfl, Lib.hid ⟨xs, HXN.out, by have := HXN2.out.1; omega, H5.out⟩⟩
                · have d0 : (0 : Int) ≤ oa := by omega
                  have d1 : ¬ oa < (N : Int) := by omega
                  clear hin hneg
                  go_wp2_with (go_at_call 11; refine kp.mono ?_; rintro e w6 ⟨rfl, rfl⟩)
                  go_meet
                  exact ⟨rfl, N, ax, cx, rfl, Lib.hid ⟨xs, HXN.out, by have := HXN2.out.1; omega, H5.out⟩⟩
          have e4 : (kd == 4) = false := by simp [q4]
          by_cases q5 : kd = 5
          · subst q5
            as_aux_lemma =>
              have hN6 : N ≤ 6000 := by have := HXN2.out.1; omega
              have hrow5 := H5.out.row
              rw [HXN.out] at hrow5
              have hcx := own_caps hrow5
              have hcm := hcx.2
              unfold maxLen at hcm
              have hlx := Lies.of_own hrow5
              have z0 : ¬ (N : Int) < 0 := by omega
              rcases hrow5.2 with ⟨e0, e1⟩ | ⟨bx, _, _, e0, _⟩
              · injection e0 with e2 e3 e4
                subst e2 e3 e4
                have hx0 : xs = [] := List.eq_nil_of_length_eq_zero HXN.out
                subst hx0
                have kp := fun (hr : ∃ a c, RingAt RI.val TR TI w5 w.heap.size g most a c ([] : List Int)) => RI.drop_none hr.choose_spec.choose_spec oa (.inr rfl)
                have kp := kp H5.out.ringAt
                clear hcm hcx hrow5 e1 hlx z0
                by_cases hneg : oa < 0
                · go_wp2_with (first
                    | (go_at_call 12; refine kp.mono ?_; rintro e w6 ⟨rfl, rfl⟩)
                    | (at_builtin; refine wpList_append_lie _ rfl _ _ 27 rfl w5.heap.size TI i0 _ 1 8 Tryz.underlying27 hi hz0 hz1 hz2 rfl (by decide) none 0 0 [] rfl (World.ownsRow_nil _ _ _ _) none 0 0 [] rfl Lies.nil (by intro u hu; simp at hu) (by unfold maxLen; omega) (by omega) (Nat.le_refl _) ?_; intro a9 c9 w9 ho hg hat; (simp only [Nat.zero_add, List.nil_append] at ho ⊢); have H9 := Lib.hid (H5.out.newx (row_first hg) (zs := []) ho rfl); clear ho hg hat))
                  go_meet
                  exact ⟨rfl, 0, a9, c9, rfl, Lib.hid ⟨[], rfl, by omega, H9.out⟩⟩
                · by_cases hpos : 0 < oa
                  · go_wp2_with (first
                      | (go_at_call 12; refine kp.mono ?_; rintro e w6 ⟨rfl, rfl⟩)
                      | (at_builtin; refine wpList_append_lie _ rfl _ _ 27 rfl w5.heap.size TI i0 _ 1 8 Tryz.underlying27 hi hz0 hz1 hz2 rfl (by decide) none 0 0 [] rfl (World.ownsRow_nil _ _ _ _) none 0 0 [] rfl Lies.nil (by intro u hu; simp at hu) (by unfold maxLen; omega) (by omega) (Nat.le_refl _) ?_; intro a9 c9 w9 ho hg hat; (simp only [Nat.zero_add, List.nil_append] at ho ⊢); have H9 := Lib.hid (H5.out.newx (row_first hg) (zs := []) ho rfl); clear ho hg hat))
                    go_meet
                    exact ⟨rfl, 0, a9, c9, rfl, Lib.hid ⟨[], rfl, by omega, H9.out⟩⟩
                  · obtain rfl : oa = 0 := by omega
                    clear hneg hpos
                    go_wp2_with (first
                      | (go_at_call 12; refine kp.mono ?_; rintro e w6 ⟨rfl, rfl⟩)
                      | (at_builtin; refine wpList_append_lie _ rfl _ _ 27 rfl w5.heap.size TI i0 _ 1 8 Tryz.underlying27 hi hz0 hz1 hz2 rfl (by decide) none 0 0 [] rfl (World.ownsRow_nil _ _ _ _) none 0 0 [] rfl Lies.nil (by intro u hu; simp at hu) (by unfold maxLen; omega) (by omega) (Nat.le_refl _) ?_; intro a9 c9 w9 ho hg hat; (simp only [Nat.zero_add, List.nil_append] at ho ⊢); have H9 := Lib.hid (H5.out.newx (row_first hg) (zs := []) ho rfl); clear ho hg hat))
                    go_meet
                    exact ⟨rfl, 0, a9, c9, rfl, Lib.hid ⟨[], rfl, by omega, H9.out⟩⟩
              · injection e0 with e2 e3 e4
                subst e2
                clear e3 e4 hrow5
                by_cases hneg : oa < 0
                · have kp := fun (hr : ∃ a c, RingAt RI.val TR TI w5 w.heap.size g most a c xs) => RI.drop_none hr.choose_spec.choose_spec oa (.inl (by omega))
                  have kp := kp H5.out.ringAt
                  go_wp2_with (first
                    | (go_at_call 12; refine kp.mono ?_; rintro e w6 ⟨rfl, rfl⟩)
                    | (at_builtin; refine wpList_append_lie _ rfl _ _ 27 rfl w5.heap.size TI i0 _ 1 8 Tryz.underlying27 hi hz0 hz1 hz2 rfl (by decide) none 0 0 [] rfl (World.ownsRow_nil _ _ _ _) (some ⟨bx, 0, none⟩) N cx (xs.map val) rfl hlx (ones _) (by unfold maxLen; omega) (by omega) (Nat.le_refl _) ?_; intro a9 c9 w9 ho hg hat; (simp only [Nat.zero_add, List.nil_append] at ho ⊢); have H9 := Lib.hid (H5.out.newx (row_first hg) ho HXN.out); clear ho hg hat))
                  go_meet
                  exact ⟨rfl, N, a9, c9, rfl, Lib.hid ⟨xs, HXN.out, by have := HXN2.out.1; omega, H9.out⟩⟩
                · obtain ⟨j, rfl⟩ : ∃ j : Nat, oa = (j : Int) := ⟨oa.toNat, by omega⟩
                  by_cases hbig : (N : Int) < (j : Int)
                  · have kp := H5.out.ring (P := fun e => e = .returned (.int .i64 (N : Int))) (f := 12) (args := #[.pointer (some ⟨g, 0, none⟩), .int .i64 (j : Int)]) (xs' := xs.drop N) fun hr => by
                      have := RI.drop_any hr (j : Int)
                      rw [HXN.out, show min (j : Int).toNat N = N by omega] at this
                      exact this
                    go_upto_region 39 with (go_at_call 12; refine kp.mono ?_; rintro e w6 ⟨rfl, h6⟩; have H6 := Lib.hid h6; clear h6 kp)
                    have hrow := H6.out.row
                    rw [HXN.out] at hrow
                    have hlc := (Lies.of_own hrow).cut (k := N) (by omega) hcx.1
                    rw [← List.map_drop] at hlc
                    have hcq : (N : Int) ≤ (cx : Int) := by have := hcx.1; omega
                    have hqi : (N : Int) ≤ (N : Int) := by omega
                    have hdl : (xs.drop N).length = N - N := by have := HXN.out; simp; omega
                    rw [Nat.sub_self] at hlc hdl
                    clear hrow
                    clear c0 c1 c2 c3
                    go_wp2_with (at_builtin; refine wpList_append_lie _ rfl _ _ 27 rfl w6.heap.size TI i0 _ 1 8 Tryz.underlying27 hi hz0 hz1 hz2 rfl (by decide) none 0 0 [] rfl (World.ownsRow_nil _ _ _ _) _ _ _ ((xs.drop N).map val) rfl hlc (ones _) (by unfold maxLen; omega) (by omega) (Nat.le_refl _) ?_; intro a9 c9 w9 ho hg hat; (simp only [Nat.zero_add, List.nil_append] at ho ⊢); have H9 := Lib.hid (H6.out.newx (row_first hg) ho hdl); clear ho hg hat)
                    all_goals
                      go_meet
                      exact ⟨rfl, _, a9, c9, rfl, Lib.hid ⟨xs.drop N, hdl, by have := HXN2.out.1; omega, H9.out⟩⟩
                  · have hjN : (j : Int) ≤ (N : Int) := by omega
                    have kp := H5.out.ring (P := fun e => e = .returned (.int .i64 (j : Int))) (f := 12) (args := #[.pointer (some ⟨g, 0, none⟩), .int .i64 (j : Int)]) (xs' := xs.drop j) fun hr => by
                      have := RI.drop_any hr (j : Int)
                      rw [HXN.out, show min (j : Int).toNat N = j by omega] at this
                      exact this
                    go_upto_region 39 with (go_at_call 12; refine kp.mono ?_; rintro e w6 ⟨rfl, h6⟩; have H6 := Lib.hid h6; clear h6 kp)
                    have hrow := H6.out.row
                    rw [HXN.out] at hrow
                    have hlc := (Lies.of_own hrow).cut (k := j) (by omega) hcx.1
                    rw [← List.map_drop] at hlc
                    have hcq : (N : Int) ≤ (cx : Int) := by have := hcx.1; omega
                    have hqi : (j : Int) ≤ (N : Int) := by omega
                    have hdl : (xs.drop j).length = N - j := by have := HXN.out; simp; omega
                    clear hrow
                    clear c0 c1 c2 c3
                    go_wp2_with (at_builtin; refine wpList_append_lie _ rfl _ _ 27 rfl w6.heap.size TI i0 _ 1 8 Tryz.underlying27 hi hz0 hz1 hz2 rfl (by decide) none 0 0 [] rfl (World.ownsRow_nil _ _ _ _) _ _ _ ((xs.drop j).map val) rfl hlc (ones _) (by unfold maxLen; omega) (by omega) (Nat.le_refl _) ?_; intro a9 c9 w9 ho hg hat; (simp only [Nat.zero_add, List.nil_append] at ho ⊢); have H9 := Lib.hid (H6.out.newx (row_first hg) ho hdl); clear ho hg hat)
                    all_goals
                      go_meet
                      exact ⟨rfl, _, a9, c9, rfl, Lib.hid ⟨xs.drop j, hdl, by have := HXN2.out.1; omega, H9.out⟩⟩
          have e5 : (kd == 5) = false := by simp [q5]
          by_cases q6 : kd = 6
          · subst q6
            as_aux_lemma =>
              have kp := H5.out.ring (P := fun e => e = .returned (.int .i64 (N : Int))) (f := 13) (args := #[.pointer (some ⟨g, 0, none⟩)]) (xs' := []) fun hr => by
                have := RI.clear_any hr
                rw [HXN.out] at this
                exact this
              go_wp2_with (go_at_call 13; refine kp.mono ?_; rintro e w6 ⟨rfl, h6⟩; have H6 := Lib.hid h6; clear h6 kp)
              go_meet
              exact ⟨rfl, 0, none, 0, rfl, Lib.hid ⟨[], rfl, by omega, H6.out.nilx⟩⟩
          have e6 : (kd == 6) = false := by simp [q6]
          as_aux_lemma =>
            go_wp2_with fail
            go_meet
            exact ⟨rfl, N, ax, cx, rfl, Lib.hid ⟨xs, HXN.out, by have := HXN2.out.1; omega, H5.out⟩⟩
        case rest =>
          obtain ⟨rfl, N2, ax2, cx2, rfl, HM⟩ := hcut
          clear c0 c1 c2 c3 H5 HL5 HXN
          obtain ⟨xs2, m1, m2, m3⟩ := HM.out
          have HM1 := Lib.hid (And.intro m2 hmost)
          clear HM
          by_cases hin : 0 ≤ oa ∧ oa < (N2 : Int)
          · obtain ⟨j, rfl⟩ : ∃ j : Nat, oa = (j : Int) := ⟨oa.toNat, by omega⟩
            as_aux_lemma =>
              have hjN : j < N2 := by omega
              have hxj : xs2[j]? = some xs2[j] := List.getElem?_eq_getElem (by omega)
              obtain ⟨z, hz⟩ : ∃ z, xs2[j]'(by omega) = z := ⟨_, rfl⟩
              rw [hz] at hxj
              have kp := fun (hr : ∃ a c, RingAt RI.val TR TI wc w.heap.size g most a c xs2) => RI.peek_in hr.choose_spec.choose_spec (j : Int) (by omega) (by omega)
              have kp := kp m3.ringAt
              rw [show xs2.getD (j : Int).toNat 0 = z by simp [List.getD_eq_getElem?_getD, hxj]] at kp
              have hrow := m3.row
              rw [m1] at hrow
              obtain ⟨bx, rfl, x00, _⟩ := own_cell hrow hxj
              have d0 : (0 : Int) ≤ (j : Int) := by omega
              have d1 : (j : Int) < (N2 : Int) := by omega
              have hzz : (z != z) = false := by simp
              clear hxj hz
              have c1 : wc.cell? ⟨y12, 1, none⟩ = some (.int .i64 (j : Int)) := m3.b0.cell 1
              have hcx := own_caps hrow
              have hcm := hcx.2
              unfold maxLen at hcm
              have hle := m3.le
              have hN6 : N2 ≤ 6060 := by have := HM1.out; omega
              have kl := fun (hr : ∃ a c, RingAt RI.val TR TI wc w.heap.size g most a c xs2) => RI.list_any hr.choose_spec.choose_spec
              have kl := kl m3.ringAt
              rw [m1] at kl
              have H5 := Lib.hid m3
              have HX := Lib.hid m1
              clear hrow m3 m1 hcx
              go_upto_region 48 with (first
                | (go_at_call 14; refine kp.mono ?_; rintro e w' ⟨rfl, rfl⟩; clear kp)
                | (go_at_call 15; refine kl.mono ?_; rintro e w7 ⟨a7, c7, rfl, ho7, hk7⟩; have B7 := Lib.hid hk7.belowW; have O7 := Lib.hid ho7; clear ho7 hk7 kl))
              have ki := H5.out.ints B7.out O7.out HX.out (by have := HLM.out.1; omega) (by have := HLM.out.2.1; omega) (by have := HX.out; omega)
              go_upto_region 49 with (go_at_call 16; refine ki.mono ?_; rintro e w8 ⟨rfl, s8, hs8, h8, hl8⟩; have H8 := Lib.hid h8; have HS8 := Lib.hid hs8; have hrow8 := h8.row; (rw [HX.out] at hrow8); have k17 := same_ints a7 (some ⟨bx, 0, none⟩) N2 c7 cx2 xs2 w8 hl8 (Lies.of_own hrow8) (by unfold maxLen; omega); clear h8 hs8 hl8 hrow8 ki)
              have kz := fun W (hr : ∃ a c, RingAt RI.val TR TI W w.heap.size g most a c xs2) => RI.len_is hr.choose_spec.choose_spec (N2 : Int) (by have := HX.out; omega)
              have kr := fun W (hr : ∃ a c, RingAt RI.val TR TI W w.heap.size g most a c xs2) => RI.room_is hr.choose_spec.choose_spec ((most : Int) - (N2 : Int)) (by have := HX.out; omega)
              have e8 : IntKind.i64.wrap ((most : Int) - (N2 : Int)) = (most : Int) - (N2 : Int) := IntWalk.i64_in _ (by omega)
              obtain ⟨dm, hdm⟩ : ∃ dm : Int, (most : Int) - (N2 : Int) = dm := ⟨_, rfl⟩
              rw [hdm] at e8 kr
              have KZ := Lib.hid kz
              have KR := Lib.hid kr
              clear kz kr
              go_wp2_with (first
                | (go_at_call 17; refine k17.mono ?_; rintro e w9 ⟨rfl, m9, rfl⟩; have H9 := Lib.hid (H8.out.drewN m9); clear k17)
                | (go_at_call 18; refine (KZ.out _ H9.out.ringAt).mono ?_; rintro e w' ⟨rfl, rfl⟩)
                | (go_at_call 19; refine (KR.out _ H9.out.ringAt).mono ?_; rintro e w10 ⟨rfl, m10, rfl⟩; have H10 := Lib.hid (H9.out.drewN m10)))
              go_roundw
              case rel => exact ⟨i + 1, N2, _, cx2, by omega, by go_num, rfl, Lib.hid (rnd_next HX.out HM1.out HLM.out HS8.out (by have := H10.out; rwa [World.drewN_drewN] at this))⟩
              case measure => simp [intOf]; omega
          · as_aux_lemma =>
              have kp := fun (hr : ∃ a c, RingAt RI.val TR TI wc w.heap.size g most a c xs2) => RI.peek_out hr.choose_spec.choose_spec oa (by omega)
              have kp := kp m3.ringAt
              have hrow := m3.row
              rw [m1] at hrow
              have c1 : wc.cell? ⟨y12, 1, none⟩ = some (.int .i64 oa) := m3.b0.cell 1
              have hcx := own_caps hrow
              have hcm := hcx.2
              unfold maxLen at hcm
              have hle := m3.le
              have hN6 : N2 ≤ 6060 := by have := HM1.out; omega
              have kl := fun (hr : ∃ a c, RingAt RI.val TR TI wc w.heap.size g most a c xs2) => RI.list_any hr.choose_spec.choose_spec
              have kl := kl m3.ringAt
              rw [m1] at kl
              have H5 := Lib.hid m3
              have HX := Lib.hid m1
              clear hrow m3 m1 hcx
              by_cases hneg : oa < 0
              · have d0 : ¬ (0 : Int) ≤ oa := by omega
                clear hin
                go_upto_region 48 with (first
                  | (go_at_call 14; refine kp.mono ?_; rintro e w' ⟨rfl, rfl⟩; clear kp)
                  | (go_at_call 15; refine kl.mono ?_; rintro e w7 ⟨a7, c7, rfl, ho7, hk7⟩; have B7 := Lib.hid hk7.belowW; have O7 := Lib.hid ho7; clear ho7 hk7 kl))
                have ki := H5.out.ints B7.out O7.out HX.out (by have := HLM.out.1; omega) (by have := HLM.out.2.1; omega) (by have := HX.out; omega)
                go_upto_region 49 with (go_at_call 16; refine ki.mono ?_; rintro e w8 ⟨rfl, s8, hs8, h8, hl8⟩; have H8 := Lib.hid h8; have HS8 := Lib.hid hs8; have hrow8 := h8.row; (rw [HX.out] at hrow8); have k17 := same_ints a7 ax2 N2 c7 cx2 xs2 w8 hl8 (Lies.of_own hrow8) (by unfold maxLen; omega); clear h8 hs8 hl8 hrow8 ki)
                have kz := fun W (hr : ∃ a c, RingAt RI.val TR TI W w.heap.size g most a c xs2) => RI.len_is hr.choose_spec.choose_spec (N2 : Int) (by have := HX.out; omega)
                have kr := fun W (hr : ∃ a c, RingAt RI.val TR TI W w.heap.size g most a c xs2) => RI.room_is hr.choose_spec.choose_spec ((most : Int) - (N2 : Int)) (by have := HX.out; omega)
                have e8 : IntKind.i64.wrap ((most : Int) - (N2 : Int)) = (most : Int) - (N2 : Int) := IntWalk.i64_in _ (by omega)
                obtain ⟨dm, hdm⟩ : ∃ dm : Int, (most : Int) - (N2 : Int) = dm := ⟨_, rfl⟩
                rw [hdm] at e8 kr
                have KZ := Lib.hid kz
                have KR := Lib.hid kr
                clear kz kr
                go_wp2_with (first
                  | (go_at_call 17; refine k17.mono ?_; rintro e w9 ⟨rfl, m9, rfl⟩; have H9 := Lib.hid (H8.out.drewN m9); clear k17)
                  | (go_at_call 18; refine (KZ.out _ H9.out.ringAt).mono ?_; rintro e w' ⟨rfl, rfl⟩)
                  | (go_at_call 19; refine (KR.out _ H9.out.ringAt).mono ?_; rintro e w10 ⟨rfl, m10, rfl⟩; have H10 := Lib.hid (H9.out.drewN m10)))
                go_roundw
                case rel => exact ⟨i + 1, N2, _, cx2, by omega, by go_num, rfl, Lib.hid (rnd_next HX.out HM1.out HLM.out HS8.out (by have := H10.out; rwa [World.drewN_drewN] at this))⟩
                case measure => simp [intOf]; omega
              · have d0 : (0 : Int) ≤ oa := by omega
                have d1 : ¬ oa < (N2 : Int) := by omega
                clear hin hneg
                go_upto_region 48 with (first
                  | (go_at_call 14; refine kp.mono ?_; rintro e w' ⟨rfl, rfl⟩; clear kp)
                  | (go_at_call 15; refine kl.mono ?_; rintro e w7 ⟨a7, c7, rfl, ho7, hk7⟩; have B7 := Lib.hid hk7.belowW; have O7 := Lib.hid ho7; clear ho7 hk7 kl))
                have ki := H5.out.ints B7.out O7.out HX.out (by have := HLM.out.1; omega) (by have := HLM.out.2.1; omega) (by have := HX.out; omega)
                go_upto_region 49 with (go_at_call 16; refine ki.mono ?_; rintro e w8 ⟨rfl, s8, hs8, h8, hl8⟩; have H8 := Lib.hid h8; have HS8 := Lib.hid hs8; have hrow8 := h8.row; (rw [HX.out] at hrow8); have k17 := same_ints a7 ax2 N2 c7 cx2 xs2 w8 hl8 (Lies.of_own hrow8) (by unfold maxLen; omega); clear h8 hs8 hl8 hrow8 ki)
                have kz := fun W (hr : ∃ a c, RingAt RI.val TR TI W w.heap.size g most a c xs2) => RI.len_is hr.choose_spec.choose_spec (N2 : Int) (by have := HX.out; omega)
                have kr := fun W (hr : ∃ a c, RingAt RI.val TR TI W w.heap.size g most a c xs2) => RI.room_is hr.choose_spec.choose_spec ((most : Int) - (N2 : Int)) (by have := HX.out; omega)
                have e8 : IntKind.i64.wrap ((most : Int) - (N2 : Int)) = (most : Int) - (N2 : Int) := IntWalk.i64_in _ (by omega)
                obtain ⟨dm, hdm⟩ : ∃ dm : Int, (most : Int) - (N2 : Int) = dm := ⟨_, rfl⟩
                rw [hdm] at e8 kr
                have KZ := Lib.hid kz
                have KR := Lib.hid kr
                clear kz kr
                go_wp2_with (first
                  | (go_at_call 17; refine k17.mono ?_; rintro e w9 ⟨rfl, m9, rfl⟩; have H9 := Lib.hid (H8.out.drewN m9); clear k17)
                  | (go_at_call 18; refine (KZ.out _ H9.out.ringAt).mono ?_; rintro e w' ⟨rfl, rfl⟩)
                  | (go_at_call 19; refine (KR.out _ H9.out.ringAt).mono ?_; rintro e w10 ⟨rfl, m10, rfl⟩; have H10 := Lib.hid (H9.out.drewN m10)))
                go_roundw
                case rel => exact ⟨i + 1, N2, _, cx2, by omega, by go_num, rfl, Lib.hid (rnd_next HX.out HM1.out HLM.out HS8.out (by have := H10.out; rwa [World.drewN_drewN] at this))⟩
                case measure => simp [intOf]; omega
      · as_aux_lemma =>
          obtain rfl : i = len0 := by omega
          obtain ⟨xs, L, M, r1, r2, r3, r4, r5, r6, r7⟩ := HR.out
          obtain ⟨aI, cI, aW, cW, hbk⟩ := r7.bookAt
          have kap := fun W (hb : Below wr.heap.size wr W) => apart_any (hbk.old hb) r5 (by omega) r6
          have KAP := Lib.hid kap
          have HE := Lib.hid (end_below r7 hbk)
          clear HR kap hbk r7
          go_wp2_with (first
            | (go_at_call 4; refine (ka _).mono ?_; rintro x w9 ⟨rfl, hb⟩; have kq := KAP.out w9 hb; have HB9 := Lib.hid hb; clear hb KAP)
            | (go_at_call 20; refine kq.mono ?_; rintro x w10 ⟨rfl, hk⟩; have HEND := Lib.hid (HE.out w9 w10 HB9.out hk); clear hk kq))
          exact end_ret (t := 6) (v := .bool true) (by kernel_rfl) rfl rfl ⟨rfl, HEND.out⟩
end Go.Proofs.YthnlfgogibjbnaaGreat.RB
