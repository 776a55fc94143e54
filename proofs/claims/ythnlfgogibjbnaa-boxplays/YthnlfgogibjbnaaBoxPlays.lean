/- BoxPlays: the walk. No condition. -/
import Derived.Test.YthnlfgogibjbnaaBoxed
import Derived.Test.YthnlfgogibjbnaaOpen
import Derived.Test.YthnlfgogibjbnaaSeg
import Derived.Test.YthnlfgogibjbnaaSeq
import Derived.Deep.DeepCutAuto
import Derived.Deep.RegionLaw
namespace Go.Proofs.Ythnlfgogibjbnaa.boxPlays
open Go.RowKit
set_option linter.unusedVariables false

theorem infoE : (Try.prog.info? 3).map (fun i => (i.zero, i.size, i.bytes)) = some (some (.int .i64 0), 1, 8) := by kernel_rfl

/-- The box at hand: a made one, or a zero one; F: its blocks. -/
def Bx (w : World) (B g most : Nat) (zero cl : Bool) (xs : List Int) (F : Nat → Prop) : Prop :=
  (zero = false ∧ ∃ c, BoxAt BX.val 59 w B g c most cl xs ∧ F = boxF g c) ∨ (zero = true ∧ xs = [] ∧ most = 0 ∧ BX.ZBox w g ∧ B ≤ g ∧ F = fun k => k = g)

theorem Bx.ge {w : World} {B g most : Nat} {zero cl : Bool} {xs : List Int} {F : Nat → Prop} (h : Bx w B g most zero cl xs F) : ∀ k, F k → B ≤ k := by
  rcases h with ⟨_, c, h, rfl⟩ | ⟨_, _, _, h, hg, rfl⟩
  · exact h.geF
  · rintro k rfl; exact hg
theorem Bx.lt {w : World} {B g most : Nat} {zero cl : Bool} {xs : List Int} {F : Nat → Prop} (h : Bx w B g most zero cl xs F) : ∀ k, F k → k < w.heap.size := by
  rcases h with ⟨_, c, h, rfl⟩ | ⟨_, _, _, h, hg, rfl⟩
  · exact h.lt
  · rintro k rfl; exact Blk.lt h
theorem Bx.keeps {w w' : World} {B g most : Nat} {zero cl : Bool} {xs : List Int} {F S : Nat → Prop} (h : Bx w B g most zero cl xs F) (hk : Keeps S w w') (hn : Apart F S) : Bx w' B g most zero cl xs F := by
  rcases h with ⟨hz, c, h, rfl⟩ | ⟨hz, hx, hm, h, hg, rfl⟩
  · exact .inl ⟨hz, c, h.keeps hk hn, rfl⟩
  · exact .inr ⟨hz, hx, hm, Blk.keeps h hk (fun hs => hn g rfl hs), hg, rfl⟩

abbrev Ptr (g : Nat) : Value := .pointer (some ⟨g, 0, none⟩)

theorem len_S {w : World} {B g most : Nat} {zero cl : Bool} {xs : List Int} {F : Nat → Prop} (h : Bx w B g most zero cl xs F) (N : Nat) (hN : xs.length = N) :
    Calls Try.prog 34 #[.pointer (some ⟨g, 0, none⟩)] w fun e w' => e = .returned (.int .i64 (N : Int)) ∧ w = w' := by
  rcases h with ⟨_, c, h, rfl⟩ | ⟨_, rfl, _, h, hg, rfl⟩
  · rw [← hN]; exact BX.len_any h
  · obtain rfl : N = 0 := hN.symm
    exact BX.len_nochan w g (Blk.cell h 2)
theorem take_S0 {w : World} {B g most : Nat} {zero cl : Bool} {F : Nat → Prop} (h : Bx w B g most zero cl [] F) :
    Calls Try.prog 32 #[.pointer (some ⟨g, 0, none⟩)] w fun e w' => e = .returned (.tuple #[.int .i64 0, .bool false]) ∧ w = w' := by
  rcases h with ⟨_, c, h, rfl⟩ | ⟨_, _, _, h, hg, rfl⟩
  · cases cl
    · exact BX.take_open h
    · exact BX.take_shut h
  · exact BX.take_nochan w g (Blk.cell h 2)
theorem take_S1 {w : World} {B g most : Nat} {zero cl : Bool} {x : Int} {xs : List Int} {F : Nat → Prop} (h : Bx w B g most zero cl (x :: xs) F) :
    Calls Try.prog 32 #[.pointer (some ⟨g, 0, none⟩)] w fun e w' => e = .returned (.tuple #[.int .i64 x, .bool true]) ∧ Bx w' B g most zero cl xs F ∧ Keeps F w w' := by
  rcases h with ⟨hz, c, h, rfl⟩ | ⟨_, hx, _, h, hg, rfl⟩
  · exact (BX.take_cons h).mono fun e w' ⟨he, h1, h2⟩ => ⟨he, .inl ⟨hz, c, h1, rfl⟩, h2⟩
  · cases hx
theorem send_S1 {w : World} {B g most : Nat} {zero cl : Bool} {xs : List Int} {F : Nat → Prop} (v : Int) (h : Bx w B g most zero cl xs F) (hc : cl = false) (hl : xs.length < most) :
    Calls Try.prog 33 #[.pointer (some ⟨g, 0, none⟩), .int .i64 v] w fun e w' => e = .returned (.bool true) ∧ Bx w' B g most zero cl (xs ++ [v]) F ∧ Keeps F w w' := by
  subst hc
  rcases h with ⟨hz, c, h, rfl⟩ | ⟨_, hx, hm, h, hg, rfl⟩
  · exact (BX.send_room v h hl).mono fun e w' ⟨he, h1, h2⟩ => ⟨he, .inl ⟨hz, c, h1, rfl⟩, h2⟩
  · omega
theorem send_S0 {w : World} {B g most : Nat} {zero cl : Bool} {xs : List Int} {F : Nat → Prop} (v : Int) (h : Bx w B g most zero cl xs F) (hl : cl = true ∨ most ≤ xs.length) :
    Calls Try.prog 33 #[.pointer (some ⟨g, 0, none⟩), .int .i64 v] w fun e w' => e = .returned (.bool false) ∧ Bx w' B g most zero cl xs F ∧ Keeps F w w' := by
  rcases h with ⟨hz, c, h, rfl⟩ | ⟨hz, hx, hm, h, hg, rfl⟩
  · cases cl
    · exact (BX.send_full v h (by rcases hl with hl | hl; cases hl; exact hl)).mono fun e w' ⟨he, h1, h2⟩ => ⟨he, .inl ⟨hz, c, h1, rfl⟩, h2⟩
    · exact (BX.send_shut v h).mono fun e w' ⟨he, h1, h2⟩ => ⟨he, .inl ⟨hz, c, h1, rfl⟩, h2⟩
  · exact (BX.send_nochan v h).mono fun e w' ⟨he, h1, h2⟩ => ⟨he, .inr ⟨hz, hx, hm, h1, hg, rfl⟩, h2⟩
theorem close_S1 {w : World} {B g most : Nat} {cl : Bool} {xs : List Int} {F : Nat → Prop} (h : Bx w B g most false cl xs F) :
    Calls Try.prog 31 #[.pointer (some ⟨g, 0, none⟩)] w fun e w' => e = .returned (.bool (!cl)) ∧ Bx w' B g most false true xs F ∧ Keeps F w w' := by
  rcases h with ⟨hz, c, h, rfl⟩ | ⟨hz, _⟩
  · cases cl
    · exact (BX.close_open h).mono fun e w' ⟨he, h1, h2⟩ => ⟨he, .inl ⟨hz, c, h1, rfl⟩, h2⟩
    · exact (BX.close_shut h).mono fun e w' ⟨he, h1, h2⟩ => ⟨he, .inl ⟨hz, c, h1, rfl⟩, h2⟩
  · cases hz
theorem close_S0 {w : World} {B g most : Nat} {cl : Bool} {xs : List Int} {F : Nat → Prop} (h : Bx w B g most true cl xs F) :
    Calls Try.prog 31 #[.pointer (some ⟨g, 0, none⟩)] w fun e w' => e = .returned (.bool false) ∧ Bx w' B g most true true xs F ∧ Keeps F w w' := by
  rcases h with ⟨hz, _⟩ | ⟨hz, hx, hm, h, hg, rfl⟩
  · cases hz
  · refine (BX.close_nochan w g (Blk.cell h 2)).mono ?_
    rintro e w' ⟨he, rfl⟩
    exact ⟨he, .inr ⟨hz, hx, hm, h, hg, rfl⟩, Keeps.refl _ _⟩

theorem ref_room (z : Int) (w : World) : Calls Try.prog 30 #[.int .i64 z] w fun e w' => e = .returned (.int .i64 (RI.roomOf z : Int)) ∧ w = w' := by
  by_cases h0 : z < 0
  · go_enter Try.func30, Try.ntmps30
    go_wp2
    go_ret
    exact ⟨ret_int (by unfold RI.roomOf; omega), rfl⟩
  · by_cases h1 : 100000 < z
    · go_enter Try.func30, Try.ntmps30
      go_wp2
      go_ret
      exact ⟨ret_int (by unfold RI.roomOf; omega), rfl⟩
    · go_enter Try.func30, Try.ntmps30
      go_wp2
      go_ret
      exact ⟨ret_int (by unfold RI.roomOf; omega), rfl⟩

/-- What holds at the head of each round. -/
structure St (w : World) (g most : Nat) (zero cl : Bool) (F : Nat → Prop) (xs : List Int) (N : Nat) (ax : Option Addr) (cx : Nat) (wr : World) : Prop where
  len : xs.length = N
  bel : Below w.heap.size w wr
  box : Bx wr w.heap.size g most zero cl xs F
  seg : Seg wr w.heap.size 3 1 ax N cx (xs.map BX.val)
  apart : Apart F (segF ax)

theorem St.boxTurn {w wr w' : World} {g most N : Nat} {zero cl cl' : Bool} {F : Nat → Prop} {xs ys : List Int} {ax : Option Addr} {cx : Nat} (h : St w g most zero cl F xs N ax cx wr) (hb : Bx w' w.heap.size g most zero cl' ys F) (hk : Keeps F wr w') :
    Below w.heap.size w w' ∧ Bx w' w.heap.size g most zero cl' ys F ∧ Seg w' w.heap.size 3 1 ax N cx (xs.map BX.val) ∧ Apart F (segF ax) :=
  ⟨hk.after h.bel h.box.ge h.bel.size, hb, h.seg.keeps hk (fun k hs hf => h.apart k hf hs), h.apart⟩

theorem no_seg {w W w4 : World} (h : Keeps (segF none) W w4) (hb : Below w.heap.size w W) : Below w.heap.size w w4 := h.after hb (fun k hk => by simp [segF, Value.ownBlock] at hk) hb.size
theorem below_new (w : World) (o : Obj) : Below w.heap.size w (w.drew.alloc o) := (Below.refl _ _).drew.alloc (Nat.le_refl _) _
theorem below_new' (w : World) (o : Obj) : Below w.heap.size w (w.alloc o).drew := ((Below.refl _ _).alloc (Nat.le_refl _) _).drew
theorem lies_new (w : World) (v : Int) : Lies (w.alloc (.cells #[.int .i64 v] 3)) 1 (some ⟨w.heap.size, 0, none⟩) 1 [.int .i64 v] := Lies.of_blk (cs := #[.int .i64 v]) (Blk.new _ _ _)
theorem lies_old {w w4 : World} {v : Int} (h : Keeps (segF none) (w.alloc (.cells #[.int .i64 v] 3)).drew w4) : Lies w4 1 (some ⟨w.heap.size, 0, none⟩) 1 [.int .i64 v] :=
  Lies.of_blk (cs := #[.int .i64 v]) (((Blk.new w _ _).drew).keeps h (by simp [segF, Value.ownBlock]))
theorem St.tail {w w' : World} {g most n1 gx ox cx cx' : Nat} {zero cl : Bool} {F : Nat → Prop} {xs : List Int} {ax' : Option Addr} (hn : xs.length = n1) (bel : Below w.heap.size w w') (hb : Bx w' w.heap.size g most zero cl xs F)
    (hap : Apart F (segF (some ⟨gx, ox, none⟩))) (hs : Seg w' w.heap.size 3 1 (if cx = 1 then some ⟨gx, ox, none⟩ else some ⟨gx, ox + 1, none⟩) (n1 + 1 - 1) (cx - 1) (xs.map BX.val))
    (h : (cx = 1 ∧ ax' = some ⟨gx, ox, none⟩ ∧ cx' = 0) ∨ (¬ cx = 1 ∧ ax' = some ⟨gx, ox + 1, none⟩ ∧ cx' = cx - 1)) : St w g most zero cl F xs n1 ax' cx' w' := by
  rcases h with ⟨h, rfl, rfl⟩ | ⟨h, rfl, rfl⟩
  · subst h
    exact ⟨hn, bel, hb, by simpa using hs, hap⟩
  · rw [if_neg h] at hs
    exact ⟨hn, bel, hb, by simpa using hs, hap⟩
theorem St.pushed {w w3 w5 : World} {g most N : Nat} {zero cl : Bool} {F : Nat → Prop} {xs : List Int} {v : Int} {a5 : Option Addr} {c5 : Nat} (hn : xs.length = N) (bel : Below w.heap.size w w3) (hb : Bx w3 w.heap.size g most zero cl (xs ++ [v]) F)
    (h5 : Below w3.heap.size w3 w5) (hs : Seg w5 w3.heap.size 3 1 a5 (N + 1) c5 (xs.map BX.val ++ [.int .i64 v])) : St w g most zero cl F (xs ++ [v]) (N + 1) a5 c5 w5 := by
  refine ⟨by simp [hn], bel.trans (h5.mono bel.size), hb.keeps (S := fun k => w3.heap.size ≤ k) ⟨h5.os, h5.tape, h5.output, h5.size, fun k _ hk => h5.block k (by omega)⟩ (fun k h1 h2 => by have := hb.lt k h1; omega), ?_, ?_⟩
  · rw [List.map_append]
    exact hs.base_ bel.size
  · intro k h1 h2
    have := hb.lt k h1
    have := hs.ge k h2
    omega

set_option maxHeartbeats 1600000 in
set_option maxRecDepth 100000 in
theorem walk (a0 : Int) (zero : Bool) (a2 : Option Addr) (len2 cap2 : Nat) (z2 : List Int) (w : World) (w0 : (Lit.int .i64 a0).wf = true) (w2 : IsRow .i64 w a2 len2 cap2 z2) :
    Calls Try.prog 7 #[.int .i64 a0, .bool zero, .slice a2 len2 cap2] w fun e w' => e = .returned (.bool true) ∧ Below w.heap.size w w' := by
  obtain ⟨hl1, hl2, hl3⟩ := w2.len
  unfold maxLen at hl2
  by_cases c1 : (100 : Int) < len2
  · go_enter Try.func7, Try.ntmps7
    go_wp2_with (go_at_call 28; refine (BX.boxed_any _).mono ?_; rintro e w' ⟨rfl, hb⟩)
    go_ret
    exact ⟨rfl, hb⟩
  have W0 := Lib.hid w2
  clear w2 w0
  obtain ⟨i0, hi, hi0, hi1, hi2⟩ := info_parts infoE
  have HI := Lib.hid (And.intro hi (And.intro hi0 (And.intro hi1 hi2)))
  clear hi hi0 hi1 hi2
  go_enter Try.func7, Try.ntmps7
  go_upto_if 20 with fail
  go_cut [0] (fun r wx => (∃ z, r = .int .i64 z) ∧ w = wx)
  case first =>
    go_wp2_with fail
    all_goals (go_meet; exact ⟨⟨_, rfl⟩, rfl⟩)
  case rest =>
    obtain ⟨⟨z, rfl⟩, rfl⟩ := hcut
    go_upto_if 25 with (first
      | (go_at_call 29; refine (BX.new_any _ _).mono ?_; rintro e w1 ⟨rfl, h1, k1⟩)
      | (go_at_call 30; refine (ref_room _ _).mono ?_; rintro e w' ⟨rfl, rfl⟩))
    go_cut [7, 8] (fun b m wx => ∃ (g most : Nat) (F : Nat → Prop), b = .pointer (some ⟨g, 0, none⟩) ∧ m = .int .i64 (most : Int) ∧ St w g most zero false F [] 0 none 0 wx)
    case first =>
      have s1 : ∀ (F : Nat → Prop) (wx : World), Seg wx w.heap.size 3 1 none 0 0 (([] : List Int).map BX.val) ∧ Apart F (segF none) := fun F wx => ⟨Seg.nil _ _ _ _, fun k _ h => by simp [segF, Value.ownBlock] at h⟩
      have S1 := Lib.hid s1
      clear s1
      cases zero
      · go_wp2_with fail
        go_meet
        exact ⟨_, _, boxF (w.heap.size + 1) w.heap.size, rfl, rfl, rfl, k1.belowW, .inl ⟨rfl, w.heap.size, h1, rfl⟩, (S1.out (fun _ => False) w1).1, (S1.out _ w1).2⟩
      · go_wp2_with fail
        go_meet
        exact ⟨_, 0, fun k => k = w1.heap.size, rfl, rfl, rfl, k1.belowW.alloc k1.size _, .inr ⟨rfl, rfl, rfl, Blk.new _ _ _, k1.size, rfl⟩, (S1.out (fun _ => False) _).1, (S1.out _ w1).2⟩
    case rest =>
      clear h1 k1 w1
      obtain ⟨g, most, F, rfl, rfl, hs⟩ := hcut
      have HS := Lib.hid hs
      clear hs
      go_wp2_with fail
      go_loopw [9, 10, 11] (fun x c i wr => ∃ (xs : List Int) (N : Nat) (ax : Option Addr) (cx : Nat) (cl : Bool) (K : Nat), x = .slice ax N cx ∧ c = .bool cl ∧ i = .int .i64 (K : Int) ∧ K ≤ len2 ∧ N ≤ K ∧ St w g most zero cl F xs N ax cx wr) (fun _ _ i _ => len2 - (intOf i).toNat)
      case atStart => exact ⟨[], 0, none, 0, false, 0, rfl, rfl, rfl, by omega, by omega, HS.out⟩
      case round =>
        clear HS
        obtain ⟨xs, N, ax, cx, cl, K, rfl, rfl, rfl, hK, hN, hs⟩ := hrel
        have HS := Lib.hid hs
        clear hs
        by_cases hlt : K < len2
        · obtain ⟨b, off, rfl, hb, hc⟩ := W0.out.cells (by omega)
          obtain ⟨v, hv⟩ : ∃ v, z2.getD K 0 = v := ⟨_, rfl⟩
          have hc0 : w.cell? ⟨b, off + K, none⟩ = some (.int .i64 v) := by rw [← hv]; exact hc K hlt
          have C0 := Lib.hid hc0
          have hcell : wr.cell? ⟨b, off + K, none⟩ = some (.int .i64 v) := (HS.out.bel.cell hb).trans hc0
          clear hv hc hc0
          by_cases q1 : (bits .and .i64 v 3 == 3) = true ∧ (bits .and .i64 v 64 != 0) = true
          · obtain ⟨q1, q2⟩ := q1
            cases zero
            · go_wp2_with fail
              refine (close_S1 HS.out.box).mono ?_
              rintro e w3 ⟨rfl, h3, k3⟩
              have R3 := Lib.hid (HS.out.boxTurn h3 k3)
              clear h3 k3
              have q3 : ((!cl) == cl) = false := by cases cl <;> rfl
              go_wp2_with fail
              refine (len_S R3.out.2.1 N HS.out.len).mono ?_
              rintro e w4 ⟨rfl, rfl⟩
              go_wp2_with fail
              go_roundw
              case rel => exact ⟨xs, N, ax, cx, true, K + 1, rfl, rfl, by go_num, by omega, by omega, HS.out.len, R3.out.1, R3.out.2.1, R3.out.2.2.1, R3.out.2.2.2⟩
              case measure => simp [intOf]; omega
            · go_wp2_with fail
              refine (close_S0 HS.out.box).mono ?_
              rintro e w3 ⟨rfl, h3, k3⟩
              have R3 := Lib.hid (HS.out.boxTurn h3 k3)
              clear h3 k3
              go_wp2_with fail
              refine (len_S R3.out.2.1 N HS.out.len).mono ?_
              rintro e w4 ⟨rfl, rfl⟩
              go_wp2_with fail
              go_roundw
              case rel => exact ⟨xs, N, ax, cx, true, K + 1, rfl, rfl, by go_num, by omega, by omega, HS.out.len, R3.out.1, R3.out.2.1, R3.out.2.2.1, R3.out.2.2.2⟩
              case measure => simp [intOf]; omega
          · have q : (bits .and .i64 v 3 == 3) = false ∨ ((bits .and .i64 v 3 == 3) = true ∧ (bits .and .i64 v 64 != 0) = false) := by
              rcases hq : (bits .and .i64 v 3 == 3) with _ | _
              · exact .inl rfl
              · refine .inr ⟨rfl, ?_⟩
                rcases hq2 : (bits .and .i64 v 64 != 0) with _ | _
                · rfl
                · exact absurd ⟨hq, hq2⟩ q1
            clear q1
            rcases q with q1 | ⟨q1, q2⟩
            all_goals
              rcases q3 : (bits .and .i64 v 1 == 1) with _ | _
              · by_cases hcan : cl = false ∧ N < most
                · obtain ⟨rfl, hm⟩ := hcan
                  go_wp2_with fail
                  refine (send_S1 v HS.out.box rfl (by rw [HS.out.len]; exact hm)).mono ?_
                  rintro e w3 ⟨rfl, h3, k3⟩
                  have R3 := Lib.hid (HS.out.boxTurn h3 k3)
                  clear h3 k3
                  have hcell3 : w3.cell? ⟨b, off + K, none⟩ = some (.int .i64 v) := (R3.out.1.cell hb).trans C0.out
                  go_wp2_with fail
                  have hN60 : N ≤ 100 := by omega
                  have L3 := Lib.hid R3.out.2.2.1
                  go_region_law (first
                    | (refine step_append_seg _ rfl (.const (.slice none 0 0)) (.tmp 53) 22 rfl w3.heap.size 3 i0 (.int .i64 0) 1 8 Try.underlying22 HI.out.1 HI.out.2.1 HI.out.2.2.1 HI.out.2.2.2 rfl (by decide) none 0 0 [] rfl (Seg.nil _ _ _ _) ax N cx (xs.map BX.val) rfl (by first | with_reducible exact L3.out.drew.lies | with_reducible exact (L3.out.drew.alloc _).lies | with_reducible exact (L3.out.alloc _).drew.lies) (RI.one_val xs) (by unfold maxLen; omega) (by omega) (by simp) ?_
                       intro a4 c4 w4 hX4 hK4 hG4
                       simp only [Nat.zero_add, List.nil_append] at hX4 ⊢
                       have B4 : Below w3.heap.size w3 w4 := by first | with_reducible exact no_seg hK4 (Below.refl _ _).drew | with_reducible exact no_seg hK4 (below_new w3 _) | with_reducible exact no_seg hK4 (below_new' w3 _)
                       have H4 := Lib.hid (And.intro hX4 (And.intro hK4 B4))
                       have hcell4 : w4.cell? ⟨b, off + K, none⟩ = some (.int .i64 v) := ((R3.out.1.trans (B4.mono R3.out.1.size)).cell hb).trans C0.out
                       clear hX4 hK4 hG4 B4)
                    | (refine step_append_seg _ rfl (.tmp 54) (.tmp 59) 22 rfl w3.heap.size 3 i0 (.int .i64 0) 1 8 Try.underlying22 HI.out.1 HI.out.2.1 HI.out.2.2.1 HI.out.2.2.2 rfl (by decide) a4 N c4 (xs.map BX.val) rfl (by first | with_reducible exact H4.out.1 | with_reducible exact H4.out.1.alloc _) _ 1 1 [.int .i64 v] rfl (by first | with_reducible exact lies_new _ _ | with_reducible exact lies_old H4.out.2.1) (by simp; rfl) (by unfold maxLen; omega) (by omega) (by have := H4.out.2.2.size; first | exact this | (simp; omega)) ?_
                       intro a5 c5 w5 hX5 hK5 hG5
                       have B5 : Below w3.heap.size w3 w5 := by first | with_reducible exact hK5.after H4.out.2.2 H4.out.1.ge H4.out.2.2.size | with_reducible exact hK5.after (H4.out.2.2.alloc H4.out.2.2.size _) H4.out.1.ge (H4.out.2.2.alloc H4.out.2.2.size _).size
                       have R5 := Lib.hid (St.pushed HS.out.len R3.out.1 R3.out.2.1 B5 hX5)
                       clear hX5 hK5 hG5 B5))
                  all_goals
                    go_wp2_with fail
                    refine (len_S R5.out.box (N + 1) R5.out.len).mono ?_
                    rintro e w6 ⟨rfl, rfl⟩
                    go_wp2_with fail
                    go_roundw
                    case rel => exact ⟨xs ++ [v], N + 1, a5, c5, false, K + 1, rfl, rfl, by go_num, by omega, by omega, R5.out⟩
                    case measure => simp [intOf]; omega
                · have hcan' : cl = true ∨ most ≤ N := by
                    cases cl
                    · exact .inr (by have : ¬ N < most := fun h => hcan ⟨rfl, h⟩; omega)
                    · exact .inl rfl
                  have hd : cl = true ∨ (cl = false ∧ ¬ (N : Int) < (most : Int)) := by
                    cases cl
                    · exact .inr ⟨rfl, by rcases hcan' with h | h; cases h; omega⟩
                    · exact .inl rfl
                  clear hcan
                  have HC := Lib.hid hcan'
                  clear hcan'
                  rcases hd with rfl | ⟨rfl, hd⟩
                  all_goals
                    go_wp2_with fail
                    refine (send_S0 v HS.out.box (by first | exact .inl rfl | (rw [HS.out.len]; exact HC.out))).mono ?_
                    rintro e w3 ⟨rfl, h3, k3⟩
                    have R3 := Lib.hid (HS.out.boxTurn h3 k3)
                    clear h3 k3
                    go_wp2_with fail
                    refine (len_S R3.out.2.1 N HS.out.len).mono ?_
                    rintro e w4 ⟨rfl, rfl⟩
                    go_wp2_with fail
                    go_roundw
                    case rel => exact ⟨xs, N, ax, cx, _, K + 1, rfl, rfl, by go_num, by omega, by omega, HS.out.len, R3.out.1, R3.out.2.1, R3.out.2.2.1, R3.out.2.2.2⟩
                    case measure => simp [intOf]; omega
              · cases xs with
                | nil =>
                  obtain rfl : N = 0 := HS.out.len.symm
                  go_wp2_with fail
                  refine (take_S0 HS.out.box).mono ?_
                  rintro e w3 ⟨rfl, rfl⟩
                  go_wp2_with fail
                  refine (len_S HS.out.box 0 rfl).mono ?_
                  rintro e w4 ⟨rfl, rfl⟩
                  go_wp2_with fail
                  go_roundw
                  case rel => exact ⟨[], 0, ax, cx, cl, K + 1, rfl, rfl, by go_num, by omega, by omega, HS.out⟩
                  case measure => simp [intOf]; omega
                | cons x0 xs =>
                  obtain ⟨n1, hn1⟩ : ∃ n1, n1 = xs.length := ⟨_, rfl⟩
                  obtain rfl : N = n1 + 1 := by rw [hn1]; exact HS.out.len.symm
                  have HN1 := Lib.hid hn1
                  clear hn1
                  obtain ⟨gx, ox, rfl⟩ := HS.out.seg.form (by omega)
                  have hcx := HS.out.seg.2.1
                  have hcx' := HS.out.seg.2.2.1
                  unfold maxLen at hcx'
                  have hpos : (0 : Int) < (n1 : Int) + 1 := by omega
                  go_wp2_with fail
                  refine (take_S1 HS.out.box).mono ?_
                  rintro e w3 ⟨rfl, h3, k3⟩
                  have R3 := Lib.hid (HS.out.boxTurn h3 k3)
                  have hx0 := R3.out.2.2.1.cell (k := 0) (u := .int .i64 x0) rfl
                  rw [Nat.add_zero] at hx0
                  clear h3 k3
                  have T1 := Lib.hid (R3.out.2.2.1.tail (by omega))
                  go_wp2_with fail
                  all_goals
                    refine (len_S R3.out.2.1 n1 HN1.out.symm).mono ?_
                    rintro e w4 ⟨rfl, rfl⟩
                    go_wp2_with fail
                    go_roundw
                    case rel => exact ⟨xs, n1, _, _, cl, K + 1, rfl, rfl, by go_num, by omega, by omega, St.tail HN1.out.symm R3.out.1 R3.out.2.1 R3.out.2.2.2 T1.out (by first | exact .inl ⟨‹_›, rfl, rfl⟩ | exact .inr ⟨‹_›, rfl, rfl⟩)⟩
                    case measure => simp [intOf]; omega
        · obtain rfl : K = len2 := by omega
          go_wp2_with (go_at_call 28; refine (BX.boxed_any _).mono ?_; rintro e w' ⟨rfl, hb⟩)
          go_ret
          exact ⟨rfl, HS.out.bel.trans (hb.mono HS.out.bel.size)⟩
end Go.Proofs.Ythnlfgogibjbnaa.boxPlays
