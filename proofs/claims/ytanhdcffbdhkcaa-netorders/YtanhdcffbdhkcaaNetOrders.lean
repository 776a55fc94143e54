/- NetOrders: the walk. No condition. -/
import Derived.Test.YtanhdcffbdhkcaaNetOrd
import Derived.BigQuiet
namespace Go.Proofs.Ytanhdcffbdhkcaa.netOrders
open Go.RowKit Go.Proofs.Ytanhdcffbdhkcaa.RP Go.Proofs.Ytanhdcffbdhkcaa.CM Go.Proofs.Ytanhdcffbdhkcaa.NT Go.Proofs.Ytanhdcffbdhkcaa.netCuts
set_option linter.unusedVariables false

def rng (k : Nat) : List Int := (List.range k).map fun i : Nat => (i : Int)
theorem rng_len (k : Nat) : (rng k).length = k := by simp [rng]
theorem rng_succ (k : Nat) : rng (k + 1) = rng k ++ [(k : Int)] := by simp [rng, List.range_succ]
theorem rng_get {k i : Nat} (h : i < k) : (rng k).getD i 0 = (i : Int) := by simp [rng, h]
theorem infoI : (Try.prog.info? 3).map (fun i => (i.zero, i.size, i.bytes)) = some (some (.int .i64 0), 1, 8) := by kernel_rfl

set_option maxHeartbeats 1000000 in
set_option maxRecDepth 100000 in
theorem main (N K J x y : Nat) (w : World) (hN0 : 1 ≤ N) (hN1 : N ≤ 40) (hK : K < N) (hJ : J ≤ N) (hx : x < N) (hy : y < N) :
    Calls Try.prog 3 #[.int .i64 (N : Int), .int .i64 (K : Int), .int .i64 (J : Int), .int .i64 (x : Int), .int .i64 (y : Int)] w fun e w' => e = .returned (.bool true) ∧ Below w.heap.size w w' := by
  obtain ⟨i0, hi, hz0, hz1, hz2⟩ := info_parts infoI
  have q1 : (1 : Int) ≤ (N : Int) := by omega
  have q2 : (N : Int) ≤ 40 := by omega
  have q3 : (0 : Int) ≤ (K : Int) := by omega
  have q4 : (K : Int) < (N : Int) := by omega
  have q5 : (0 : Int) ≤ (J : Int) := by omega
  have q6 : (J : Int) ≤ (N : Int) := by omega
  have q7 : (0 : Int) ≤ (x : Int) := by omega
  have q8 : (x : Int) < (N : Int) := by omega
  have q9 : (0 : Int) ≤ (y : Int) := by omega
  have q10 : (y : Int) < (N : Int) := by omega
  have knew := ow_new w
  go_enter Try.func3, Try.ntmps3
  go_wp2_with (go_at_call 8; refine knew.mono ?_; rintro e w1 ⟨rfl, h1⟩; have H1 := Lib.hid h1; clear h1 knew)
  go_loopw [12, 13] (fun s i wr => ∃ (k : Nat) (wa : Option Addr) (cw : Nat), k ≤ N ∧ i = .int .i64 (k : Int) ∧ s = .slice wa k cw ∧ Hid (OW w w.heap.size (rng k) (rng k) wa cw wr)) (fun _ i _ => N - (intOf i).toNat)
  case atStart => exact ⟨0, none, 0, by omega, rfl, rfl, H1⟩
  case round =>
    clear H1
    obtain ⟨k, wa, cw, hk, rfl, rfl, HO⟩ := hrel
    by_cases hlt : k < N
    · have hwf : Wf (k : Int) := WalkArith.wf_i64 (by omega)
      have hl1 : (rng k).length < 900 := by rw [rng_len]; omega
      have ks := ow_send HO.out (k : Int) hwf hl1
      clear hwf hl1
      go_wp2_with (first
        | (go_at_call 9; refine ks.mono ?_; rintro e w2 ⟨⟨r, rfl⟩, h2⟩
           have r2 := (h2.alloc (.cells #[.int .i64 (k : Int)] 3)).row
           rw [rng_len] at r2
           have b2 := (h2.alloc (.cells #[.int .i64 (k : Int)] 3)).base
           have H2 := Lib.hid (h2.alloc (.cells #[.int .i64 (k : Int)] 3)); clear h2 ks)
        | (at_builtin; refine wpList_append_lie _ rfl _ _ 25 rfl w.heap.size 3 i0 _ 1 8 Try.underlying25 hi hz0 hz1 hz2 rfl (by decide) wa k cw ((rng k).map vi) rfl r2 (some ⟨w2.heap.size, 0, none⟩) 1 1 [.int .i64 (k : Int)] rfl (Lies.of_blk (cs := #[.int .i64 (k : Int)]) (Blk.new _ _ _)) (by simp [Value.oneCell']) (by unfold maxLen; omega) (by omega) b2 ?_; intro a3 c3 w3 hown hg hat
           have H3 := Lib.hid (H2.out.app (by rw [rng_len]; exact hown) hg hat)
           clear hown hg hat r2 b2))
      go_roundw
      case rel => exact ⟨k + 1, a3, c3, by omega, by go_num, rfl, by rw [rng_succ]; exact Lib.hid (by have := H3.out; exact this)⟩
      case measure => simp [intOf]; omega
    · obtain rfl : k = N := by omega
      have r2 := (HO.out.alloc (.cells #[.int .i64 (K : Int)] 3)).row
      rw [rng_len] at r2
      have b2 := (HO.out.alloc (.cells #[.int .i64 (K : Int)] 3)).base
      have H2 := Lib.hid (HO.out.alloc (.cells #[.int .i64 (K : Int)] 3))
      clear HO
      go_wp2_with (at_builtin; refine wpList_append_lie _ rfl _ _ 25 rfl w.heap.size 3 i0 _ 1 8 Try.underlying25 hi hz0 hz1 hz2 rfl (by decide) wa k cw ((rng k).map vi) rfl r2 (some ⟨wr.heap.size, 0, none⟩) 1 1 [.int .i64 (K : Int)] rfl (Lies.of_blk (cs := #[.int .i64 (K : Int)]) (Blk.new _ _ _)) (by simp [Value.oneCell']) (by unfold maxLen; omega) (by omega) b2 ?_; intro a3 c3 w3 hown hg hat
                   have H3 := Lib.hid (H2.out.app (by rw [rng_len]; exact hown) hg hat)
                   clear hown hg hat r2 b2)
      obtain ⟨ws1, hws1⟩ : ∃ l, rng k ++ [(K : Int)] = l := ⟨_, rfl⟩
      rw [hws1] at H3
      have hlen : ws1.length = k + 1 := by rw [← hws1]; simp [rng_len]
      clear H2
      obtain ⟨b, hab, -⟩ := H3.out.cell (k := 0) (by omega)
      subst hab
      have hrow : w3.ownsRow w.heap.size 3 1 (.slice (some ⟨b, 0, none⟩) (k + 1) c3) (k + 1) (ws1.map vi) := by have := H3.out.row; rwa [hlen] at this
      have hcap : k + 1 ≤ c3 := by
        rcases hrow.2 with ⟨h0, h1⟩ | ⟨g', cap, cur, h0, _, _, h1, _⟩
        · injection h0 with _ _ h2; omega
        · injection h0 with _ _ h2; omega
      have hmax : c3 ≤ maxLen := by
        rcases hrow.2 with ⟨h0, h1⟩ | ⟨g', cap, cur, h0, _, _, h1, h2, _⟩
        · injection h0 with _ _ h3; omega
        · injection h0 with _ _ h3; omega
      unfold maxLen at hmax
      have t1 : IntKind.i64.wrap ((J : Int) + 1) = (J : Int) + 1 := IntWalk.i64_in _ (by omega)
      have t2 : (0 : Int) ≤ (J : Int) + 1 := by omega
      have t3 : ((J : Int) + 1).toNat = J + 1 := by omega
      have t4 : J ≤ c3 := by omega
      have t5 : J + 1 ≤ k + 1 := by omega
      have t6 : J + 1 ≤ c3 := by omega
      have n2 : J + (k - J) = k := by omega
      have t7 : (J : Int) ≤ (J : Int) + 1 := by omega
      have n3 : k + 1 - (J + 1) = k - J := by omega
      have HD := Lib.hid H3.out.drew
      have LW := Lib.hid (Lies.of_own hrow).drew
      obtain ⟨ws2, hws2⟩ : ∃ l, ws1.take J ++ ws1.drop (J + 1) = l := ⟨_, rfl⟩
      have hlen2 : ws2.length = k := by rw [← hws2]; simp; omega
      have L1 : Lies w3.drew 1 (some ⟨b, 0, none⟩) J ((ws1.map vi).take J) := by have := LW.out.take (k := J) (by omega); rwa [Nat.mul_one] at this
      have hbase : w.heap.size ≤ w3.drew.heap.size := HD.out.base
      have one_v : ∀ l : List Int, ∀ u ∈ l.map vi, u.oneCell' = true := by intro l u hu; simp at hu; obtain ⟨_, _, rfl⟩ := hu; rfl
      have one1 : ∀ u ∈ (ws1.map vi).take J, u.oneCell' = true := fun u hu => one_v _ u (List.mem_of_mem_take hu)
      have one2 : ∀ u ∈ (ws1.map vi).drop (J + 1), u.oneCell' = true := fun u hu => one_v _ u (List.mem_of_mem_drop hu)
      have L2 : ∀ {w4 : World}, w3.drew.grownBy w4 (Value.slice none 0 0).ownBlock → Lies w4 1 (if c3 = J + 1 then some ⟨b, 0, none⟩ else some ⟨b, J + 1, none⟩) (k + 1 - (J + 1)) ((ws1.map vi).drop (J + 1)) ∧ w.heap.size ≤ w4.heap.size := fun {w4} hg =>
        ⟨(LW.out.keeps (by decide) ((Keeps.refl _ w3.drew).grown (S := fun _ => False) hg (fun k hk _ => by rw [show (Value.slice none 0 0).ownBlock = none from rfl] at hk; cases hk)) (fun _ _ h => h)).cut (c := c3) (by omega) (by omega), Nat.le_trans hbase hg.size⟩
      have hfin : ∀ (w4 w5 : World) (a4 a5 : Option Addr) (c5 : Nat), w3.drew.grownBy w4 (Value.slice none 0 0).ownBlock → ((Value.slice a4 0 0).ownBlock = (Value.slice none 0 0).ownBlock ∨ (Value.slice a4 0 0).ownBlock = some w3.drew.heap.size) →
          w5.ownsRow w.heap.size 3 1 (.slice a5 (J + (k - J)) c5) (J + (k - J)) ((ws1.map vi).take J ++ (ws1.map vi).drop (J + 1)) → w4.grownBy w5 (Value.slice a4 0 0).ownBlock → ((Value.slice a5 0 0).ownBlock = (Value.slice a4 0 0).ownBlock ∨ (Value.slice a5 0 0).ownBlock = some w4.heap.size) → OW w w.heap.size (rng k) ws2 a5 c5 w5 := by
        intro w4 w5 a4 a5 c5 g1 g2 g3 g4 g5
        rw [n2] at g3
        refine HD.out.app2 (n1 := 0) (c1 := 0) (xs1 := []) g1 g2 ?_ g4 g5
        rw [hlen2, ← hws2, List.map_append, List.map_take, List.map_drop]
        exact g3
      have HF := Lib.hid hfin
      clear hfin
      have HL2 := Lib.hid (fun w4 => @L2 w4)
      clear L2 hmax
      go_upto_region 13 with fail
      go_cut [12] from 81 to 89 (fun r wx => ∃ (a5 : Option Addr) (c5 : Nat), r = .slice a5 k c5 ∧ Hid (OW w w.heap.size (rng k) ws2 a5 c5 wx))
      case first =>
        by_cases hcJ : c3 = J + 1
        · subst hcJ
          go_region_law (first
            | (refine step_append_lie _ rfl (.const (.slice none 0 0)) (.tmp 83) 25 rfl w.heap.size 3 i0 _ 1 8 Try.underlying25 hi hz0 hz1 hz2 rfl (by decide) none 0 0 [] rfl (World.ownsRow_nil _ _ _ _) (some ⟨b, 0, none⟩) J (J + 1) ((ws1.map vi).take J) (by go_simp) L1 one1 (by unfold maxLen; omega) (by omega) hbase ?_; intro a4 c4 w4 ho4 hg4 hat4
               simp only [Nat.zero_add, List.nil_append] at ho4 ⊢
               have M4 := HL2.out _ hg4
               have L4 := M4.1
               rw [if_pos rfl, n3] at L4
               have B4 := M4.2
               clear M4)
            | (refine step_append_lie _ rfl (.tmp 84) (.tmp 88) 25 rfl w.heap.size 3 i0 _ 1 8 Try.underlying25 hi hz0 hz1 hz2 rfl (by decide) a4 J c4 ((ws1.map vi).take J) (by go_simp) ho4 (some ⟨b, 0, none⟩) (k - J) (J + 1 - (J + 1)) ((ws1.map vi).drop (J + 1)) (by go_simp) L4 one2 (by unfold maxLen; omega) (by omega) B4 ?_; intro a5 c5 w5 ho5 hg5 hat5
               have H5 := Lib.hid (HF.out w4 w5 a4 a5 c5 hg4 hat4 ho5 hg5 hat5)
               simp only [n2]
               clear ho4 hg4 hat4 L4 B4 ho5 hg5 hat5))
          all_goals
            go_wp2_with fail
            go_meet
            exact ⟨a5, c5, rfl, H5⟩
        · go_region_law (first
            | (refine step_append_lie _ rfl (.const (.slice none 0 0)) (.tmp 83) 25 rfl w.heap.size 3 i0 _ 1 8 Try.underlying25 hi hz0 hz1 hz2 rfl (by decide) none 0 0 [] rfl (World.ownsRow_nil _ _ _ _) (some ⟨b, 0, none⟩) J c3 ((ws1.map vi).take J) (by go_simp) L1 one1 (by unfold maxLen; omega) (by omega) hbase ?_; intro a4 c4 w4 ho4 hg4 hat4
               simp only [Nat.zero_add, List.nil_append] at ho4 ⊢
               have M4 := HL2.out _ hg4
               have L4 := M4.1
               rw [if_neg hcJ, n3] at L4
               have B4 := M4.2
               clear M4)
            | (refine step_append_lie _ rfl (.tmp 84) (.tmp 88) 25 rfl w.heap.size 3 i0 _ 1 8 Try.underlying25 hi hz0 hz1 hz2 rfl (by decide) a4 J c4 ((ws1.map vi).take J) (by go_simp) ho4 (some ⟨b, J + 1, none⟩) (k - J) (c3 - (J + 1)) ((ws1.map vi).drop (J + 1)) (by go_simp) L4 one2 (by unfold maxLen; omega) (by omega) B4 ?_; intro a5 c5 w5 ho5 hg5 hat5
               have H5 := Lib.hid (HF.out w4 w5 a4 a5 c5 hg4 hat4 ho5 hg5 hat5)
               simp only [n2]
               clear ho4 hg4 hat4 L4 B4 ho5 hg5 hat5))
          all_goals
            go_wp2_with fail
            go_meet
            exact ⟨a5, c5, rfl, H5⟩
      case rest =>
        obtain ⟨a5, c5, rfl, H5⟩ := hcut
        clear LW HD HL2 HF L1 one1 one2 one_v hrow hcap hbase H3 t1 t2 t3 t4 t5 t6 t7 n2 n3
        obtain ⟨b5, hab, -⟩ := H5.out.cell (k := 0) (by omega)
        subst hab
        obtain ⟨u, hu⟩ : ∃ u, ws2.getD x 0 = u := ⟨_, rfl⟩
        obtain ⟨v, hv⟩ : ∃ v, ws2.getD y 0 = v := ⟨_, rfl⟩
        obtain ⟨ws3, hws3⟩ : ∃ l, (ws2.set x v).set y u = l := ⟨_, rfl⟩
        have hlen3 : ws3.length = k := by rw [← hws3]; simp [hlen2]
        have kdouble := ow_double H5.out K (by rw [rng_len]; exact hK) (by rw [rng_len]; omega)
        rw [rng_get hK, hws1] at kdouble
        have kdrop : ∀ {W : World}, OW w w.heap.size ws1 ws2 (some ⟨b5, 0, none⟩) c5 W → Calls Try.prog 11 #[.pointer (some ⟨w.heap.size, 0, none⟩), .int .i64 (J : Int)] W fun e w' => e = .returned (.bool true) ∧ OW w w.heap.size ws2 ws2 (some ⟨b5, 0, none⟩) c5 w' := fun {W} h => by
          have := ow_drop h J (by omega)
          rwa [hws2] at this
        have kswap : ∀ {W : World}, OW w w.heap.size ws2 ws2 (some ⟨b5, 0, none⟩) c5 W → Calls Try.prog 12 #[.pointer (some ⟨w.heap.size, 0, none⟩), .int .i64 (x : Int), .int .i64 (y : Int)] W fun e w' => e = .returned (.bool true) ∧ OW w w.heap.size ws3 ws2 (some ⟨b5, 0, none⟩) c5 w' := fun {W} h => by
          have := ow_swap h x y (by omega) (by omega)
          rwa [hu, hv, hws3] at this
        have kcell : ∀ {W : World} {qs ws : List Int} {m : Nat} , OW w w.heap.size qs ws (some ⟨b5, 0, none⟩) c5 W → m < ws.length → W.cell? ⟨b5, m, none⟩ = some (.int .i64 (ws.getD m 0)) ∧ W.frozen? ⟨b5, m, none⟩ = false := fun {W qs ws m} h hm => by
          obtain ⟨b', hb', hc⟩ := h.cell hm
          injection hb' with hb'
          injection hb' with hb'
          subst hb'
          exact ⟨hc, h.frozen (by omega) m⟩
        have KC := Lib.hid (fun W qs ws m => @kcell W qs ws m)
        have HE := Lib.hid (And.intro hu (And.intro hv (And.intro hws3 (And.intro hlen2 (And.intro hlen3 (And.intro hlen (And.intro hws1 hws2)))))))
        clear hu hv hws3 hlen2 hlen3 hlen hws1 hws2 kcell
        go_upto_region 16 with (first
          | (go_at_call 10; (with_reducible refine kdouble.mono ?_); rintro e w6 ⟨rfl, h6⟩; have H6 := Lib.hid h6; clear h6 kdouble)
          | (go_at_call 11; (with_reducible refine (kdrop H6.out).mono ?_); rintro e w7 ⟨rfl, h7⟩; have H7 := Lib.hid h7; clear h7 kdrop)
          | (go_at_call 12; (with_reducible refine (kswap H7.out).mono ?_); rintro e w8 ⟨rfl, h8⟩; have H8 := Lib.hid h8; clear h8 kswap))
        go_cut [12] from 107 to 120 (fun r wx => r = .slice (some ⟨b5, 0, none⟩) k c5 ∧ Hid (OW w w.heap.size ws3 ws3 (some ⟨b5, 0, none⟩) c5 wx))
        case first =>
          obtain ⟨p1, p2⟩ := KC.out _ _ _ x H8.out.drew (by rw [HE.out.2.2.2.1]; exact hx)
          obtain ⟨p3, p4⟩ := KC.out _ _ _ y H8.out.drew (by rw [HE.out.2.2.2.1]; exact hy)
          rw [HE.out.1] at p1
          rw [HE.out.2.1] at p3
          have p5 := ((H8.out.set1 x v).drew).frozen (by rw [List.length_set, HE.out.2.2.2.1]; omega) y
          obtain ⟨p6, p7⟩ := KC.out _ _ _ y (H8.out.set1 x v) (by rw [List.length_set, HE.out.2.2.2.1]; exact hy)
          have HX := Lib.hid (H8.out.swapped x y v u).drew
          go_region_law (fail)
          all_goals
            go_wp2_with fail
            go_meet
            exact ⟨rfl, Lib.hid (HE.out.2.2.1 ▸ HX.out)⟩
        case rest =>
          obtain ⟨rfl, H9⟩ := hcut
          have hlen3 := HE.out.2.2.2.2.1
          have HL3 := Lib.hid hlen3
          have hk0 : 0 < ws3.length := by omega
          clear HE H8 H7 H6 H5 hlen3
          go_wp2_with fail
          go_loopw [14] (fun i wr => ∃ m : Nat, m ≤ k ∧ i = .int .i64 (m : Int) ∧ Hid (OW w w.heap.size (ws3.drop m) ws3 (some ⟨b5, 0, none⟩) c5 wr)) (fun i _ => k - (intOf i).toNat)
          case atStart => exact ⟨0, by omega, rfl, H9⟩
          case round =>
            clear H9
            obtain ⟨m, hm, rfl, HO⟩ := hrel
            by_cases hlt : m < k
            · obtain ⟨t, ht⟩ : ∃ t, ws3.getD m 0 = t := ⟨_, rfl⟩
              have hdrop : ws3.drop m = t :: ws3.drop (m + 1) := by
                rw [List.drop_eq_getElem_cons (by rw [HL3.out]; exact hlt), ← ht]
                congr 1
                rw [List.getD_eq_getElem?_getD, List.getElem?_eq_getElem (by rw [HL3.out]; exact hlt)]
                rfl
              have ktake := ow_take HO.out t _ hdrop
              have hml : m < ws3.length := by rw [HL3.out]; exact hlt
              have HT := Lib.hid ht
              clear hdrop ht
              go_wp2_with (go_at_call 13; (with_reducible refine ktake.mono ?_); rintro e w9 ⟨rfl, h9⟩; have H9 := Lib.hid (h9.alloc (boxP (pk t))); have c9 := (KC.out _ _ _ m H9.out hml).1; rw [HT.out] at c9; clear h9 ktake)
              go_quiet (fail)
              go_wp2_with fail
              go_roundw
              case rel => exact ⟨m + 1, by omega, by go_num, Lib.hid (H9.out.then_ (belowDrewN (belowSame _) _))⟩
              case measure => simp [intOf]; omega
            · obtain rfl : m = k := by omega
              have HO' : Hid (OW w w.heap.size [] ws3 (some ⟨b5, 0, none⟩) c5 wr) := by
                have := HO.out
                rw [List.drop_eq_nil_of_le (by rw [HL3.out]; exact Nat.le_refl _)] at this
                exact Lib.hid this
              clear HO
              go_wp2_with (first
                | (go_at_call 7; refine (alive_any _).mono ?_; rintro e wa1 ⟨rfl, hb⟩; have Ha := Lib.hid (HO'.out.then_ hb); clear hb)
                | (go_at_call 14; (with_reducible refine (ow_len0 Ha.out).mono ?_); rintro e wa2 ⟨rfl, hb⟩; have Hb := Lib.hid hb; clear hb)
                | (go_at_call 11; (with_reducible refine (ow_drop0 Hb.out).mono ?_); rintro e wa3 ⟨rfl, hb⟩; have Hc := Lib.hid hb; clear hb)
                | (go_at_call 10; (with_reducible refine (ow_double0 Hc.out).mono ?_); rintro e wa4 ⟨rfl, hb⟩; have Hd := Lib.hid hb; clear hb)
                | (go_at_call 12; (with_reducible refine (ow_swap0 Hd.out).mono ?_); rintro e wa5 ⟨rfl, hb⟩; have He := Lib.hid hb; clear hb))
              go_ret
              exact ⟨rfl, He.out.bel⟩
end Go.Proofs.Ytanhdcffbdhkcaa.netOrders
