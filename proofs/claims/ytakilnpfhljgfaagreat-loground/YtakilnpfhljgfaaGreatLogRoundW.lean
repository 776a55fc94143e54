/- LogRound: however many transactions go through it, freed in their order, a log that is freed has room again; its numbers rise by one. No condition. -/
import Derived.Test.YtakilnpfhljgfaaGreatM4
import Derived.Deep.CutBlock
import Derived.Deep.Cut
import Derived.Carry
namespace Go.Proofs.YtakilnpfhljgfaaGreat.WL
set_option maxRecDepth 100000
open Go.RowKit Go.Proofs.YtakilnpfhljgfaaGreat.MI Go.Proofs.YtakilnpfhljgfaaGreat.WI Go.Proofs.YtakilnpfhljgfaaGreat.SM Go.Proofs.YtakilnpfhljgfaaGreat.DK Go.Proofs.YtakilnpfhljgfaaGreat.SU Go.Proofs.YtakilnpfhljgfaaGreat.BK
set_option linter.unusedVariables false
set_option linter.unusedSimpArgs false

def rsecI (n : Int) : Int := (108 * n + 41) / 42
theorem rsec_any (n : Int) (h1 : 1 ≤ n) (h2 : n ≤ 60) (w : World) : Calls Tryz.prog 47 #[.int .i64 n] w fun e w' => e = .returned (.int .i64 (rsecI n)) ∧ w' = w := by
  unfold rsecI
  have d1 : ¬ n < 1 := by omega
  have d2 : ¬ 60 < n := by omega
  have e1 : IntKind.i64.wrap (108 * n) = 108 * n := IntWalk.i64_in _ (by omega)
  have e2 : IntKind.i64.wrap (108 * n + 41) = 108 * n + 41 := IntWalk.i64_in _ (by omega)
  have e4 : (108 * n + 41).tdiv 42 = (108 * n + 41) / 42 := Int.tdiv_eq_ediv_of_nonneg (by omega)
  obtain ⟨q, hq⟩ : ∃ q, (108 * n + 41) / 42 = q := ⟨_, rfl⟩
  have e5 : 0 ≤ q ∧ q ≤ 200 := by omega
  have e6 : IntKind.i64.wrap q = q := IntWalk.i64_in _ (by omega)
  rw [hq] at e4 ⊢
  clear hq
  go_enter Tryz.func47, Tryz.ntmps47
  go_wp2
  go_ret
  exact ⟨rfl, rfl⟩
theorem rmost8 (w : World) : Calls Tryz.prog 16 #[.int .i64 8] w fun e w' => e = .returned (.int .i64 1) ∧ w' = w := by
  go_enter Tryz.func16, Tryz.ntmps16
  go_wp2
  go_loop [3, 4] (fun m i => ∃ k : Nat, k ≤ 60 ∧ i = .int .i64 ((k : Int) + 1) ∧ m = .int .i64 (if k = 0 then 0 else 1)) (fun _ i => 61 - (intOf i).toNat)
  case atStart => exact ⟨0, by omega, rfl, rfl⟩
  case round =>
    obtain ⟨k, hk, rfl, rfl⟩ := hrel
    by_cases hlt : k < 60
    · have d1 : ¬ (60 : Int) < (k : Int) + 1 := by omega
      have d2 : (k : Int) + 1 ≤ 60 := by omega
      have e1 : IntKind.i64.wrap ((k : Int) + 1 + 1) = (k : Int) + 1 + 1 := IntWalk.i64_in _ (by omega)
      have ks := rsec_any ((k : Int) + 1) (by omega) (by omega)
      by_cases h0 : k = 0
      · subst h0
        rw [show rsecI (((0 : Nat) : Int) + 1) = 3 from rfl] at ks
        clear d1 d2 e1
        go_wp2_with (go_at_call 47; refine (ks _).mono ?_; rintro e w1 ⟨rfl, rfl⟩)
        go_round
        case rel => exact ⟨1, by omega, rfl, rfl⟩
        case measure => simp [intOf]
      · have hs : 3 < rsecI ((k : Int) + 1) := by unfold rsecI; omega
        have d3 : ¬ rsecI ((k : Int) + 1) ≤ 3 := by omega
        generalize rsecI ((k : Int) + 1) = r at *
        rw [if_neg h0]
        have H0 := Lib.hid h0
        clear h0
        go_wp2_with (go_at_call 47; refine (ks _).mono ?_; rintro e w1 ⟨rfl, rfl⟩)
        go_round
        case rel => exact ⟨k + 1, by omega, by go_num, by rw [if_neg (by omega)]⟩
        case measure => simp [intOf]; omega
    · obtain rfl : k = 60 := by omega
      go_wp2
      go_ret
      exact ⟨rfl, rfl⟩
theorem ims_own {w : World} {B c : Nat} {a : Option Addr} {x : RC.Im} (h : w.ownsRow B RC.TIm 3 (.slice a 1 c) 1 (RC.ival x)) (hx : RC.ImOk x) : RC.Ims w a 1 c [x] := by
  have hs := Seg.of_own h
  obtain ⟨b, off, rfl⟩ := hs.form (by omega)
  refine ⟨hs.2.1, hs.2.2.1, rfl, fun y hy => by rw [List.mem_singleton.1 hy]; exact hx, fun _ => ⟨b, off, rfl, hs.lt b (by simp [segF, Value.ownBlock]), fun i y hy j u hu => ?_⟩⟩
  have hi : i = 0 := by
    rcases Nat.lt_or_ge i 1 with h | h
    · omega
    · rw [List.getElem?_eq_none (by simpa using h)] at hy; cases hy
  subst hi
  obtain rfl : x = y := by simpa using hy
  obtain ⟨ad, e, hc⟩ := hs.lies.2 (by omega)
  cases e
  have := hc j u hu
  rwa [addr_add, show off + j = off + (0 * 3 + j) by omega] at this
theorem row_new {W w5 w6 : World} {o : Obj} (hb : Below W.heap.size W w5) (hg : (w5.alloc o).grownBy w6 (Value.slice none 0 0).ownBlock) : Below W.heap.size W w6 := by
  have hA : Below W.heap.size W (w5.alloc o) := belowNew hb o
  have hk : Below (w5.alloc o).heap.size (w5.alloc o) w6 := ((Keeps.refl (fun _ => False) _).grown hg (fun k hk => by simp [Value.ownBlock] at hk)).belowW
  exact belowThen hA hk
section
variable {w0 W : World} {g d q N : Nat} {S : Lg} {bl : List (Nat × TypeId × Array Value)}
/-- Add of one image: it goes in, or there is no room. -/
theorem add_can (h : LogAt w0 g d q N S bl W) (hs : LSane S) (hb : S.next ≤ 1000000) (A : Option Addr) (c : Nat) (xs : List RC.Im) (hx : xs.length = 1) (hI : RC.Ims W A 1 c xs) (hf : RC.Fits 9 S.next xs) (can : Bool) (hc : decide (S.es.length ≤ 1) = can) :
    Calls Tryz.prog 10 #[.pointer (some ⟨g, 0, none⟩), .slice A 1 c] W fun e w' => ∃ nv fv S1, e = .returned (.tuple #[.int .u64 nv, .int .i64 fv]) ∧ LSane S1 ∧ LogAt w0 g d q N S1 bl w' ∧ (can = true → nv = S.next ∧ fv = 0 ∧ S1.next = S.next + 1) ∧ (can = false → nv = 0 ∧ fv = 10 ∧ S1.next = S.next) := by
  by_cases hm : S.es.length ≤ 1
  · have : can = true := by rw [← hc]; simpa using hm
    subst this
    exact (s_add h hs hb A c xs hI hf hm).mono fun e w' ⟨he, ho⟩ => ⟨S.next, 0, addS S xs, he, hs.add hx hm, ho, fun _ => ⟨rfl, rfl, rfl⟩, fun h => by cases h⟩
  · have : can = false := by rw [← hc]; simpa using hm
    subst this
    exact (s_add_full h hs hb A c xs hI hf hm).mono fun e w' ⟨he, ho⟩ => ⟨0, 10, S, he, hs, ho, fun h => by (cases h), fun _ => ⟨rfl, rfl, rfl⟩⟩
/-- A log all of whose records last. -/
structure Lasts (S : Lg) : Prop where
  sane : LSane S
  w : S.written = S.next - 1
  y : S.synced = S.next - 1
  all : S.es.map doneE = S.es
theorem sync_lasts (h : LSane S) : Lasts (syncS S) := ⟨h.sync, rfl, rfl, sync_all S⟩
theorem k_sync (h : LogAt w0 g d q N S bl W) (hs : LSane S) (hN : N ≤ 8000000) : Calls Tryz.prog 18 #[.pointer (some ⟨g, 0, none⟩)] W fun e w' => ∃ S1, e = .returned (.int .i64 0) ∧ Lasts S1 ∧ S1.next = S.next ∧ LogAt w0 g d q (N + 96) S1 bl w' :=
  (s_sync h hs hN).mono fun e w' ⟨he, ho⟩ => ⟨_, he, sync_lasts hs, rfl, ho⟩
/-- Free of all. -/
theorem k_free_all (h : LogAt w0 g d q N S bl W) (hs : Lasts S) (hb : S.next ≤ 1000000) (hN : N ≤ 8000000) : Calls Tryz.prog 19 #[.pointer (some ⟨g, 0, none⟩), .int .u64 S.next] W fun e w' => ∃ S1, e = .returned (.int .i64 0) ∧ LSane S1 ∧ S1.next = S.next ∧ S1.es.length = 0 ∧ LogAt w0 g d q (N + 16) S1 bl w' := by
  have hf := hs.sane.fst
  refine (s_free h hs.sane hb S.next S.es.length (Nat.le_refl _) (by omega) hs.w hs.y hN).mono fun e w' ⟨he, ho⟩ => ⟨_, he, hs.sane.free (Nat.le_refl _) (by omega) hs.all hs.w, rfl, ?_, ho⟩
  show (S.es.drop S.es.length).length = 0
  simp
/-- Free of all but the last. -/
theorem k_free_most (h : LogAt w0 g d q N S bl W) (hs : Lasts S) (hb : S.next ≤ 1000000) (hN : N ≤ 8000000) : Calls Tryz.prog 19 #[.pointer (some ⟨g, 0, none⟩), .int .u64 (S.next - 1)] W fun e w' => ∃ S1, e = .returned (.int .i64 0) ∧ LSane S1 ∧ S1.next = S.next ∧ LogAt w0 g d q (N + 16) S1 bl w' := by
  have hf := hs.sane.fst
  have h0 := hs.sane.f0
  by_cases hz : S.es.length = 0
  · have hy := hs.sane.sy
    exact (free_low h (S.next - 1) (by have := hs.y; omega) (by omega) (by omega)).mono fun e w' ⟨he, ho⟩ => ⟨S, he, hs.sane, rfl, ho.up (by omega)⟩
  · refine (s_free h hs.sane hb (S.next - 1) (S.es.length - 1) (by omega) (by omega) hs.w hs.y hN).mono fun e w' ⟨he, ho⟩ => ⟨_, he, hs.sane.free (by omega) (by omega) hs.all hs.w, rfl, ho⟩
end
set_option maxHeartbeats 4000000 in
theorem round_long (w : World) (a0 a1 : Option Addr) (len0 cap0 len1 cap1 : Nat) (hl : 60 < len0 ∨ 60 < len1) : Calls Tryz.prog 4 #[.slice a0 len0 cap0, .slice a1 len1 cap1] w (AQuiet w) := by
  have ka := fun W => alive_any W
  unfold AQuiet at ka
  by_cases h0 : 60 < len0
  · have d0 : (60 : Int) < (len0 : Int) := by omega
    clear hl h0
    go_enter Tryz.func4, Tryz.ntmps4
    go_wp2_with (go_at_call 7; refine (ka _).mono ?_; rintro x w1 ⟨rfl, hb⟩; have HB1 := Lib.hid hb; clear hb)
    exact end_ret (t := 4) (v := .bool true) (by kernel_rfl) rfl rfl ⟨rfl, HB1.out⟩
  · have d0 : ¬ (60 : Int) < (len0 : Int) := by omega
    have d1 : (60 : Int) < (len1 : Int) := by omega
    clear hl h0
    go_enter Tryz.func4, Tryz.ntmps4
    go_wp2_with (go_at_call 7; refine (ka _).mono ?_; rintro x w1 ⟨rfl, hb⟩; have HB1 := Lib.hid hb; clear hb)
    exact end_ret (t := 4) (v := .bool true) (by kernel_rfl) rfl rfl ⟨rfl, HB1.out⟩
set_option maxHeartbeats 16000000 in
theorem round_go (w : World) (a0 a1 : Option Addr) (len0 cap0 len1 cap1 : Nat) (z0 : List Int) (z1 : List Bool) (r0 : IsRow .i64 w a0 len0 cap0 z0) (r1 : SliceIs Value.bool w a1 len1 cap1 z1) (hl0 : len0 ≤ 60) (hl1 : len1 ≤ 60) : Calls Tryz.prog 4 #[.slice a0 len0 cap0, .slice a1 len1 cap1] w (AQuiet w) := by
  have kr := fun W => ready_any W
  unfold ReadyOut at kr
  have F := fine_of dr_ready
  have hN0 := nr_le
  generalize DR = D0 at *
  generalize NR = N0 at *
  obtain ⟨T0, hT0⟩ : ∃ T, RC.oneT 0 = T := ⟨_, rfl⟩
  have ka := fun W => alive_any W
  unfold AQuiet at ka
  have ko := fun (W : World) (d : Nat) (bl : List (Nat × TypeId × Array Value)) (h : OwnL w d N0 D0 bl W) => open_any h F (by omega)
  obtain ⟨N1, hN1⟩ : ∃ N, N0 + 16 = N := ⟨_, rfl⟩
  have hN2 : N1 ≤ 2000000 := by omega
  rw [hN1] at ko
  unfold sagg sh0 at *
  have KO := Lib.hid ko
  have R0 := Lib.hid r0
  have R1 := Lib.hid r1
  have hcm := r0.len
  have hcm1 := r1.2
  unfold maxLen at hcm hcm1
  obtain ⟨i0, hi, hz0, hz1, hz2⟩ := info_parts RC.infIm
  have d0 : ¬ (60 : Int) < (len0 : Int) := by omega
  have d1 : ¬ (60 : Int) < (len1 : Int) := by omega
  clear ko F hN1 hN0 r0 r1
  obtain ⟨S0, hS0⟩ : ∃ S, L0 = S := ⟨_, rfl⟩
  have hn0 : S0.next = 1 := by rw [← hS0]; rfl
  have HS0 := Lib.hid (show LSane S0 from hS0 ▸ sane0)
  have HN0 := Lib.hid hn0
  rw [hS0] at KO
  clear hS0 hn0
  go_enter Tryz.func4, Tryz.ntmps4
  go_upto_region 4 with (go_at_call 8; refine (kr _).mono ?_; rintro x w1 ⟨d, r, p, C, rfl, hd, hb, _, _, _⟩; have H1 := Lib.hid (Own.toL (w0 := w) ⟨p, hd, hb⟩); clear hd hb kr)
  have h2 := H1.out.beside TLa #[.int .i64 2, .int .i64 10, .int .i64 8, .int .i64 4, .int .i64 32]
  obtain ⟨W2, hW2⟩ : ∃ W2, w1.alloc (.cells #[.int .i64 2, .int .i64 10, .int .i64 8, .int .i64 4, .int .i64 32] TLa) = W2 := ⟨_, rfl⟩
  rw [hW2] at h2 ⊢
  obtain ⟨x7, hx7⟩ : ∃ x, w1.heap.size = x := ⟨_, rfl⟩
  rw [hx7] at h2 ⊢
  have c0 : W2.cell? ⟨x7, 0, none⟩ = some (.int .i64 2) := h2.b0.cell 0
  have c1 : W2.cell? ⟨x7, 1, none⟩ = some (.int .i64 10) := h2.b0.cell 1
  have c2 : W2.cell? ⟨x7, 2, none⟩ = some (.int .i64 8) := h2.b0.cell 2
  have c3 : W2.cell? ⟨x7, 3, none⟩ = some (.int .i64 4) := h2.b0.cell 3
  have c4 : W2.cell? ⟨x7, 4, none⟩ = some (.int .i64 32) := h2.b0.cell 4
  have H2 := Lib.hid h2
  clear h2 hW2 hx7 H1
  go_upto_region 9 with (go_at_call 9; refine (KO.out _ _ _ H2.out).mono ?_; rintro x w3 ⟨g, q, rfl, h3⟩; have H3 := Lib.hid h3; clear h3)
  clear c0 c1 c2 c3 c4
  go_wp2_with fail
  go_loopw [11, 12] (fun nx i wr => ∃ (k : Nat) (S : Lg), k ≤ len0 ∧ i = .int .i64 (k : Int) ∧ nx = .int .u64 S.next ∧ Hid (LSane S ∧ S.next ≤ (k : Int) + 1 ∧ LogAt w g d q (N1 + 400 * k) S [(x7, TLa, #[.int .i64 2, .int .i64 10, .int .i64 8, .int .i64 4, .int .i64 32])] wr)) (fun _ i _ => len0 - (intOf i).toNat)
  case atStart => exact ⟨0, S0, by omega, rfl, by rw [HN0.out], Lib.hid ⟨HS0.out, by rw [HN0.out]; decide, H3.out⟩⟩
  case round =>
    obtain ⟨k, S, hk, rfl, rfl, HH⟩ := hrel
    by_cases hlt : k < len0
    · obtain ⟨b0, off0, rfl, hb0, hc0⟩ := R0.out.cells (by omega)
      obtain ⟨z, hz⟩ : ∃ z, z0.getD k 0 = z := ⟨_, rfl⟩
      have hck := hc0 k hlt
      rw [hz] at hck
      have CZ := Lib.hid (fun (W : World) (hb : Below w.heap.size w W) => (hb.cell (p := ⟨b0, off0 + k, none⟩) hb0).trans hck)
      have hcap : (k : Int) < (cap0 : Int) := by omega
      have HM := Lib.hid HH.out.2.2
      have x2 : wr.cell? ⟨x7, 2, none⟩ = some (.int .i64 8) := HM.out.b0.cell 2
      have cz := CZ.out wr HM.out.bel
      have e1 : IntKind.i64.wrap ((k : Int) + 1) = (k : Int) + 1 := IntWalk.i64_in _ (by omega)
      clear hc0 hck hz hb0
      by_cases hz1' : z < 1
      · go_wp2_with fail
        go_quiet ((go_at_call 16; exact Calls.quiet_of_same (rmost8 _)))
        go_wp2_with fail
        exact end_ret (t := 4) (v := .bool true) (by kernel_rfl) rfl rfl ⟨rfl, (HM.out.drewN _).bel⟩
      · by_cases hz2' : 1 < z
        · go_wp2_with fail
          go_quiet ((go_at_call 16; exact Calls.quiet_of_same (rmost8 _)))
          go_wp2_with fail
          exact end_ret (t := 4) (v := .bool true) (by kernel_rfl) rfl rfl ⟨rfl, (HM.out.drewN _).bel⟩
        · obtain rfl : z = 1 := by omega
          clear hz1' hz2'
          go_wp2_with fail
          go_quiet ((go_at_call 16; exact Calls.quiet_of_same (rmost8 _)))
          have hq := HM.out.drewN nq
          obtain ⟨wq, hwq⟩ : ∃ W, wr.drewN nq = W := ⟨_, rfl⟩
          rw [hwq] at hq ⊢
          have HQ := Lib.hid hq
          clear x2 cz hq hwq HM
          go_wp2_with fail
          have hs : LSane S := HH.out.1
          have hb : S.next ≤ (k : Int) + 1 := HH.out.2.1
          have hpos := hs.nx
          have HS := Lib.hid hs
          have k1 : ∀ W, Calls Tryz.prog 11 #[.int .i64 0, .int .u64 S.next] W fun x w' => x = .returned (.agg #[.int .i64 0, .int .u64 S.next, .string T0]) ∧ Below W.heap.size W w' := fun W => one_new 0 (by decide) S.next T0 hT0 W
          have K1 := Lib.hid k1
          have CI := Lib.hid (show ∀ (W W' : World) (a : Option Addr) (c : Nat), W'.ownsRow W.heap.size RC.TIm 3 (.slice a 1 c) 1 [.int .i64 0, .int .u64 S.next, .string T0] → RC.Ims W' a 1 c [RC.oneI 0 S.next] from fun W W' a c h => by rw [← hT0] at h; exact ims_own (x := RC.oneI 0 S.next) h (RC.one_ok 0 (by decide) S.next (by omega)))
          clear k1 hs hpos
          go_loopw [13, 14] (fun l kk wx => ∃ (j : Nat) (a : Option Addr) (c : Nat), j ≤ 1 ∧ kk = .int .i64 (j : Int) ∧ l = .slice a j c ∧ Hid ((j = 0 → a = none ∧ c = 0) ∧ (j = 1 → RC.Ims wx a 1 c [RC.oneI 0 S.next])) ∧ Hid (LogAt w g d q (N1 + 400 * k) S [(x7, TLa, #[.int .i64 2, .int .i64 10, .int .i64 8, .int .i64 4, .int .i64 32])] wx)) (fun _ kk _ => 1 - (intOf kk).toNat)
          case atStart => exact ⟨0, none, 0, by omega, rfl, rfl, Lib.hid ⟨fun _ => ⟨rfl, rfl⟩, fun h => absurd h (by decide)⟩, HQ⟩
          case round =>
            obtain ⟨j, a, c, hj, rfl, rfl, HA, HL⟩ := hrel
            have cz := CZ.out wr HL.out.bel
            by_cases hjl : j < 1
            · obtain rfl : j = 0 := by omega
              obtain ⟨rfl, rfl⟩ := HA.out.1 rfl
              clear HA
              go_wp2_with (first
                | (go_at_call 11; refine (K1.out _).mono ?_; rintro x w5 ⟨rfl, hb⟩; have hl5 : Lies (w5.alloc (.cells #[.int .i64 0, .int .u64 S.next, .string T0] RC.TIm)) 3 (some ⟨w5.heap.size, 0, none⟩) 1 [.int .i64 0, .int .u64 S.next, .string T0] := (by have := Lies.of_blk (Blk.new w5 RC.TIm #[.int .i64 0, .int .u64 S.next, .string T0]); exact ⟨rfl, fun _ => this.2 (by simp)⟩); have HB5 := Lib.hid hb; clear hb)
                | (at_builtin; refine wpList_append_lie _ rfl _ _ 22 rfl (w5.alloc (.cells #[.int .i64 0, .int .u64 S.next, .string T0] RC.TIm)).heap.size RC.TIm i0 _ 3 32 Tryz.underlying22 hi hz0 hz1 hz2 rfl (by decide) none 0 0 [] rfl (World.ownsRow_nil _ _ _ _) (some ⟨w5.heap.size, 0, none⟩) 1 1 [.int .i64 0, .int .u64 S.next, .string T0] rfl hl5 (by intro u hu; simp at hu; rcases hu with rfl | rfl | rfl <;> rfl) (by unfold maxLen; omega) (by omega) (Nat.le_refl _) ?_; intro a' c' w6 hown hg hat; have H6 := Lib.hid (HL.out.then_ (row_new HB5.out hg)); have I6 := Lib.hid (CI.out _ _ _ _ hown); clear hown hg hat hl5))
              go_roundw
              case rel => exact ⟨1, a', c', by omega, rfl, rfl, Lib.hid ⟨fun h => absurd h (by decide), fun _ => I6.out⟩, H6⟩
              case measure => simp [intOf]
            · obtain rfl : j = 1 := by omega
              have HI := Lib.hid (HA.out.2 rfl)
              clear HA
              obtain ⟨can, hcan⟩ : ∃ can, decide (S.es.length ≤ 1) = can := ⟨_, rfl⟩
              have HCAN := Lib.hid hcan
              have kf : ∀ W, LogAt w g d q (N1 + 400 * k) S [(x7, TLa, #[.int .i64 2, .int .i64 10, .int .i64 8, .int .i64 4, .int .i64 32])] W → Calls Tryz.prog 17 #[.pointer (some ⟨g, 0, none⟩), .int .i64 1] W fun e w' => e = .returned (.bool can) ∧ Below W.heap.size W w' := fun W h => by
                have := fits_any h (fun x hx => (HS.out.ok x hx).n) (by have := HS.out.m; omega) 1
                rw [← HCAN.out]
                exact this
              have KF := Lib.hid kf
              clear kf hcan
              go_upto_region 22 with (first
                | (go_at_call 17; refine (KF.out _ HL.out).mono ?_; rintro x w5 ⟨rfl, hb⟩; have H5 := Lib.hid (HL.out.then_ hb); have I5 := Lib.hid (HI.out.old hb); clear hb)
                | (go_at_call 10; refine (add_can H5.out HS.out (by omega) _ _ [RC.oneI 0 S.next] rfl I5.out (RC.one_fits 9 S.next (by decide) (by have := HS.out.nx; omega) 0 (by decide) S.next) can HCAN.out).mono ?_; rintro x w6 ⟨nv, fv, S1, rfl, s1, ho, t1, t2⟩; have H6 := Lib.hid ho; have HS1 := Lib.hid s1; have HT := Lib.hid t1; have HF := Lib.hid t2; clear s1 ho t1 t2))
              clear HL HI KF
              go_cut [114] from 95 to 114 (fun v wx => v = .bool false ∧ w6 = wx)
              case first =>
                cases can
                · obtain ⟨rfl, rfl, -⟩ := HF.out rfl
                  clear HT HF
                  go_wp2_with fail
                  go_meet
                  exact ⟨rfl, rfl⟩
                · obtain ⟨rfl, rfl, -⟩ := HT.out rfl
                  clear HT HF
                  go_wp2_with fail
                  go_meet
                  exact ⟨rfl, rfl⟩
              case rest =>
                obtain ⟨rfl, rfl⟩ := hcut
                go_upto_if 115 with fail
                go_cut [11] from 116 to 140 (fun nx wx => ∃ S2, nx = .int .u64 S2.next ∧ Hid (LSane S2 ∧ S.next ≤ S2.next ∧ S2.next ≤ S.next + 1 ∧ LogAt w g d q (N1 + 400 * k + 112) S2 [(x7, TLa, #[.int .i64 2, .int .i64 10, .int .i64 8, .int .i64 4, .int .i64 32])] wx))
                case first =>
                  cases can
                  · obtain ⟨-, -, hn⟩ := HF.out rfl
                    have HNX := Lib.hid hn
                    have cz6 : ∀ W, Below w.heap.size w W → W.cell? ⟨b0, off0 + k, none⟩ = some (.int .i64 1) := CZ.out
                    have KFA := Lib.hid (show ∀ (W : World) (S3 : Lg), LogAt w g d q (N1 + 400 * k + 96) S3 [(x7, TLa, #[.int .i64 2, .int .i64 10, .int .i64 8, .int .i64 4, .int .i64 32])] W → Lasts S3 → S3.next = S1.next → Calls Tryz.prog 19 #[.pointer (some ⟨g, 0, none⟩), .int .u64 S.next] W fun e w' => ∃ S4, e = .returned (.int .i64 0) ∧ LSane S4 ∧ S4.next = S.next ∧ S4.es.length = 0 ∧ LogAt w g d q (N1 + 400 * k + 112) S4 [(x7, TLa, #[.int .i64 2, .int .i64 10, .int .i64 8, .int .i64 4, .int .i64 32])] w' from fun W S3 h hl he => by
                      have := k_free_all h hl (by omega) (by omega)
                      rw [he, HNX.out] at this
                      exact this)
                    have KU := Lib.hid (show ∀ (W : World) (S4 : Lg), LogAt w g d q (N1 + 400 * k + 112) S4 [(x7, TLa, #[.int .i64 2, .int .i64 10, .int .i64 8, .int .i64 4, .int .i64 32])] W → LSane S4 → S4.es.length = 0 → Calls Tryz.prog 13 #[.pointer (some ⟨g, 0, none⟩)] W fun e w' => e = .returned (.int .i64 0) ∧ LogAt w g d q (N1 + 400 * k + 112) S4 [(x7, TLa, #[.int .i64 2, .int .i64 10, .int .i64 8, .int .i64 4, .int .i64 32])] w' from fun W S4 h hl he => by
                      have := s_used h hl
                      rw [he] at this
                      exact this)
                    have KF := Lib.hid (show ∀ (W : World) (S4 : Lg), LogAt w g d q (N1 + 400 * k + 112) S4 [(x7, TLa, #[.int .i64 2, .int .i64 10, .int .i64 8, .int .i64 4, .int .i64 32])] W → LSane S4 → S4.es.length = 0 → Calls Tryz.prog 17 #[.pointer (some ⟨g, 0, none⟩), .int .i64 1] W fun e w' => e = .returned (.bool true) ∧ LogAt w g d q (N1 + 400 * k + 112) S4 [(x7, TLa, #[.int .i64 2, .int .i64 10, .int .i64 8, .int .i64 4, .int .i64 32])] w' from fun W S4 h hl he => by
                      have := s_fits h hl 1
                      rw [he] at this
                      exact this)
                    clear hn HT HF cz6
                    go_wp2_with (first
                      | (go_at_call 18; refine (k_sync H6.out HS1.out (by omega)).mono ?_; rintro x w7 ⟨S3, rfl, l3, n3, ho⟩; have H7 := Lib.hid ho; have L3 := Lib.hid l3; have N3 := Lib.hid n3; clear ho l3 n3)
                      | (go_at_call 19; refine (KFA.out _ _ H7.out L3.out N3.out).mono ?_; rintro x w8 ⟨S4, rfl, s4, n4, m4, ho⟩; have H8 := Lib.hid ho; have S4' := Lib.hid s4; have N4 := Lib.hid n4; have M4 := Lib.hid m4; clear ho s4 n4 m4)
                      | (go_at_call 13; refine (KU.out _ _ H8.out S4'.out M4.out).mono ?_; rintro x w9 ⟨rfl, ho⟩; have cz9 := CZ.out w9 ho.bel; have H9 := Lib.hid ho; clear ho)
                      | (go_at_call 17; refine (KF.out _ _ H9.out S4'.out M4.out).mono ?_; rintro x w10 ⟨rfl, ho⟩; have H10 := Lib.hid ho; clear ho))
                    go_meet
                    exact ⟨S4, by rw [N4.out], Lib.hid ⟨S4'.out, by rw [N4.out]; omega, by rw [N4.out]; omega, H10.out⟩⟩
                  · obtain ⟨-, -, hn⟩ := HT.out rfl
                    have HNX := Lib.hid hn
                    have e2 : IntKind.u64.wrap (S.next + 1) = S.next + 1 := IntWalk.u64_in _ (by have := HS.out.nx; omega)
                    clear hn HT HF
                    go_wp2_with fail
                    go_meet
                    exact ⟨S1, by rw [HNX.out], Lib.hid ⟨HS1.out, by rw [HNX.out]; omega, by rw [HNX.out]; omega, H6.out.up (by omega)⟩⟩
                case rest =>
                  obtain ⟨S2, rfl, HC⟩ := hcut
                  have hs2 := HC.out
                  have HS2 := Lib.hid hs2.1
                  have HB2 := Lib.hid (And.intro hs2.2.1 hs2.2.2.1)
                  have H7 := Lib.hid hs2.2.2.2
                  clear hs2 HC HT HF H6 HS1
                  go_upto_region 28 with fail
                  go_cut [162] from 141 to 162 (fun v wx => v = .bool false ∧ ∃ S3, Hid (LSane S3 ∧ S3.next = S2.next ∧ LogAt w g d q (N1 + 400 * k + 224) S3 [(x7, TLa, #[.int .i64 2, .int .i64 10, .int .i64 8, .int .i64 4, .int .i64 32])] wx))
                  case first =>
                    by_cases h1 : k < len1
                    · obtain ⟨ad, u, rfl, hu, hcell⟩ := R1.out.1.at_ h1
                      obtain ⟨b, hb'⟩ : ∃ b : Bool, u = .bool b := by
                        rw [List.getElem?_map] at hu
                        cases hx : z1[k]? with
                        | none => rw [hx] at hu; cases hu
                        | some b => rw [hx] at hu; exact ⟨b, by injection hu with hu; exact hu.symm⟩
                      subst hb'
                      have hlt1 := World.block_lt_of_cell? w _ hcell
                      have cb := (H7.out.bel.cell (p := ad.add k) hlt1).trans hcell
                      have hcap1 : (k : Int) < (cap1 : Int) := by omega
                      have hk1 : (k : Int) < (len1 : Int) := by omega
                      clear hu hcell hlt1
                      cases b
                      · go_wp2_with fail
                        go_meet
                        exact ⟨rfl, S2, Lib.hid ⟨HS2.out, rfl, H7.out.up (by omega)⟩⟩
                      · have hp2 := HS2.out.nx
                        have hb2 := HB2.out.2
                        have e2 : IntKind.u64.wrap (S2.next - 1) = S2.next - 1 := IntWalk.u64_in _ (by omega)
                        have KFM := Lib.hid (show ∀ (W : World) (S3 : Lg), LogAt w g d q (N1 + 400 * k + 112 + 96) S3 [(x7, TLa, #[.int .i64 2, .int .i64 10, .int .i64 8, .int .i64 4, .int .i64 32])] W → Lasts S3 → S3.next = S2.next → Calls Tryz.prog 19 #[.pointer (some ⟨g, 0, none⟩), .int .u64 (S2.next - 1)] W fun e w' => ∃ S4, e = .returned (.int .i64 0) ∧ LSane S4 ∧ S4.next = S2.next ∧ LogAt w g d q (N1 + 400 * k + 224) S4 [(x7, TLa, #[.int .i64 2, .int .i64 10, .int .i64 8, .int .i64 4, .int .i64 32])] w' from fun W S3 h hl he => by
                          have := k_free_most h hl (by omega) (by omega)
                          rw [he] at this
                          exact this)
                        clear hp2 hb2
                        go_wp2_with (first
                          | (go_at_call 18; refine (k_sync H7.out HS2.out (by omega)).mono ?_; rintro x w8 ⟨S3, rfl, l3, n3, ho⟩; have H8 := Lib.hid ho; have L3 := Lib.hid l3; have N3 := Lib.hid n3; clear ho l3 n3)
                          | (go_at_call 19; refine (KFM.out _ _ H8.out L3.out N3.out).mono ?_; rintro x w9 ⟨S4, rfl, s4, n4, ho⟩; have H9 := Lib.hid ho; have S4' := Lib.hid s4; have N4 := Lib.hid n4; clear ho s4 n4))
                        go_meet
                        exact ⟨rfl, S4, Lib.hid ⟨S4'.out, N4.out, H9.out⟩⟩
                    · have hk1 : ¬ (k : Int) < (len1 : Int) := by omega
                      go_wp2_with fail
                      go_meet
                      exact ⟨rfl, S2, Lib.hid ⟨HS2.out, rfl, H7.out.up (by omega)⟩⟩
                  case rest =>
                    obtain ⟨rfl, S3, HC⟩ := hcut
                    have HS3 := Lib.hid HC.out.1
                    have HN3 := Lib.hid HC.out.2.1
                    have H8 := Lib.hid HC.out.2.2
                    clear HC H7
                    go_wp2_with fail
                    have hd := H8.out.drew
                    obtain ⟨u, hu⟩ : ∃ u : Int, 3 * (S3.es.length : Int) = u := ⟨_, rfl⟩
                    have hm2 := HS3.out.m
                    have hu2 : u = 0 ∨ u = 3 ∨ u = 6 := by omega
                    have KU := Lib.hid (show ∀ W, LogAt w g d q (N1 + 400 * k + 224) S3 [(x7, TLa, #[.int .i64 2, .int .i64 10, .int .i64 8, .int .i64 4, .int .i64 32])] W → Calls Tryz.prog 13 #[.pointer (some ⟨g, 0, none⟩)] W fun e w' => e = .returned (.int .i64 u) ∧ LogAt w g d q (N1 + 400 * k + 224) S3 [(x7, TLa, #[.int .i64 2, .int .i64 10, .int .i64 8, .int .i64 4, .int .i64 32])] w' from fun W h => by
                      have := s_used h HS3.out
                      rw [hu] at this
                      exact this)
                    have KN := Lib.hid (show ∀ W, LogAt w g d q (N1 + 400 * k + 224) S3 [(x7, TLa, #[.int .i64 2, .int .i64 10, .int .i64 8, .int .i64 4, .int .i64 32])] W → Calls Tryz.prog 12 #[.pointer (some ⟨g, 0, none⟩)] W fun e w' => e = .returned (.int .u64 S2.next) ∧ W = w' from fun W h => by
                      have := next_any h
                      rw [HN3.out] at this
                      exact this)
                    have x2 : (_ : World).cell? ⟨x7, 2, none⟩ = some (.int .i64 8) := hd.b0.cell 2
                    have HD := Lib.hid hd
                    have hb2 := HB2.out
                    clear hd hu hm2
                    rcases hu2 with rfl | rfl | rfl
                    all_goals
                      go_region_held3 (fun W => W.cell? ⟨x7, 2, none⟩ = some (.int .i64 8)) (go_keep) (first
                        | (go_at_call 13; refine (KU.out _ HD.out).mono ?_; rintro x w9 ⟨rfl, ho⟩; have s0 : w9.cell? ⟨x7, 2, none⟩ = some (.int .i64 8) := ho.b0.cell 2; have H9 := Lib.hid ho; clear ho)
                        | (go_at_call 12; refine (KN.out _ H9.out).mono ?_; rintro x w10 ⟨rfl, rfl⟩))
                      go_wp2_with fail
                      go_roundw
                      case rel => exact ⟨k + 1, S3, by omega, by go_num, by rw [HN3.out], Lib.hid ⟨HS3.out, by rw [HN3.out]; omega, H9.out.up (by omega)⟩⟩
                      case measure => simp [intOf]; omega
    · obtain rfl : k = len0 := by omega
      have HM := Lib.hid HH.out.2.2
      go_wp2_with (go_at_call 7; refine (ka _).mono ?_; rintro x w4 ⟨rfl, hb⟩; have HB4 := Lib.hid (HM.out.then_ hb).bel; clear hb)
      exact end_ret (t := 4) (v := .bool true) (by kernel_rfl) rfl rfl ⟨rfl, HB4.out⟩
end Go.Proofs.YtakilnpfhljgfaaGreat.WL
namespace Go.Proofs.YtakilnpfhljgfaaGreat.logRound
set_option maxRecDepth 100000
set_option linter.unusedVariables false
open Go.RowKit
theorem walk (a0 : Option Addr) (len0 cap0 : Nat) (z0 : List Int) (a1 : Option Addr) (len1 cap1 : Nat) (z1 : List Bool) (w : World) (g0 : IsRow .i64 w a0 len0 cap0 z0) (g1 : SliceIs Value.bool w a1 len1 cap1 z1) :
    Calls Tryz.prog 4 #[.slice a0 len0 cap0, .slice a1 len1 cap1] w fun e w' => e = .returned (.bool true) ∧ Below w.heap.size w w' := by
  by_cases h : 60 < len0 ∨ 60 < len1
  · exact WL.round_long w a0 a1 len0 cap0 len1 cap1 h
  · exact WL.round_go w a0 a1 len0 cap0 len1 cap1 z0 z1 g0 g1 (by omega) (by omega)
end Go.Proofs.YtakilnpfhljgfaaGreat.logRound
