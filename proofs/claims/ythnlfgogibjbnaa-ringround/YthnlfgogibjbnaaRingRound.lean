/- RingRound: the walk. No condition. -/
import Derived.Test.YthnlfgogibjbnaaRingAlive
import Derived.Test.YthnlfgogibjbnaaRow
import Derived.Test.YthnlfgogibjbnaaSeq
namespace Go.Proofs.Ythnlfgogibjbnaa.ringRound
open Go.RowKit
set_option linter.unusedVariables false

theorem push_yes {w : World} {B g most : Nat} {a : Option Addr} {c : Nat} {xs : List Int} (h : RingAt RI.val 64 3 w B g most a c xs) (x : Int) (hr : xs.length < most) :
    Calls Try.prog 12 #[.pointer (some ⟨g, 0, none⟩), .slice (some ⟨w.heap.size, 0, none⟩) 1 1] (w.alloc (.cells #[.int .i64 x] 3)) fun e w' =>
      e = .returned (.int .i64 1) ∧ RingOut RI.val 64 3 (w.alloc (.cells #[.int .i64 x] 3)) B g most a (xs ++ [x]) w' := by
  refine (RI.push_any (h.alloc _) (some ⟨w.heap.size, 0, none⟩) 1 1 (by decide) (by omega) [x] (Lies.of_blk (cs := #[.int .i64 x]) (Blk.new _ _ _))).mono ?_
  rintro e w' ⟨rfl, h2⟩
  rw [show min 1 (most - xs.length) = 1 by omega] at h2 ⊢
  exact ⟨rfl, h2⟩
theorem push_no {w : World} {B g most : Nat} {a : Option Addr} {c : Nat} {xs : List Int} (h : RingAt RI.val 64 3 w B g most a c xs) (x : Int) (hr : most ≤ xs.length) :
    Calls Try.prog 12 #[.pointer (some ⟨g, 0, none⟩), .slice (some ⟨w.heap.size, 0, none⟩) 1 1] (w.alloc (.cells #[.int .i64 x] 3)) fun e w' =>
      e = .returned (.int .i64 0) ∧ RingOut RI.val 64 3 (w.alloc (.cells #[.int .i64 x] 3)) B g most a xs w' := by
  refine (RI.push_any (h.alloc _) (some ⟨w.heap.size, 0, none⟩) 1 1 (by decide) (by omega) [x] (Lies.of_blk (cs := #[.int .i64 x]) (Blk.new _ _ _))).mono ?_
  rintro e w' ⟨rfl, h2⟩
  rw [show min 1 (most - xs.length) = 0 by omega] at h2 ⊢
  exact ⟨rfl, by simpa using h2⟩

/-- What holds at the head of each round: the ring holds O, .., I - 1. -/
def Rel (w : World) (room : Nat) (I O : Nat) (wr : World) : Prop := O ≤ I ∧ Below w.heap.size w wr ∧ ∃ a c, RingAt RI.val 64 3 wr w.heap.size w.heap.size room a c (seqI O (I - O))

set_option maxRecDepth 100000 in
theorem walk (a0 : Int) (a1 : Option Addr) (len1 cap1 : Nat) (z1 : List Int) (w : World) (w0 : (Lit.int .i64 a0).wf = true) (w1 : IsRow .i64 w a1 len1 cap1 z1) :
    Calls Try.prog 3 #[.int .i64 a0, .slice a1 len1 cap1] w fun e w' => e = .returned (.bool true) ∧ Below w.heap.size w w' := by
  obtain ⟨hl1, hl2, hl3⟩ := w1.len
  unfold maxLen at hl2
  by_cases c1 : a0 < 1
  · go_enter Try.func3, Try.ntmps3
    go_wp2_with (go_at_call 10; refine (RI.alive_any _).mono ?_; rintro e w' ⟨rfl, hb⟩)
    go_ret
    exact ⟨rfl, hb⟩
  by_cases c2 : 50 < a0
  · go_enter Try.func3, Try.ntmps3
    go_wp2_with (go_at_call 10; refine (RI.alive_any _).mono ?_; rintro e w' ⟨rfl, hb⟩)
    go_ret
    exact ⟨rfl, hb⟩
  by_cases c3 : (60 : Int) < len1
  · go_enter Try.func3, Try.ntmps3
    go_wp2_with (go_at_call 10; refine (RI.alive_any _).mono ?_; rintro e w' ⟨rfl, hb⟩)
    go_ret
    exact ⟨rfl, hb⟩
  obtain ⟨room, rfl⟩ : ∃ room : Nat, a0 = (room : Int) := ⟨a0.toNat, by omega⟩
  have hroom : RI.roomOf (room : Int) = room := by unfold RI.roomOf; omega
  have W1 := Lib.hid w1
  clear w1 w0
  go_enter Try.func3, Try.ntmps3
  go_wp2_with (go_at_call 11; refine (RI.new_any _ _).mono ?_; rintro e w1 ⟨rfl, hR, hK⟩; rw [hroom] at hR; clear hroom)
  go_loopw [6, 7, 8] (fun i o k wr => ∃ I O K : Nat, i = .int .i64 (I : Int) ∧ o = .int .i64 (O : Int) ∧ k = .int .i64 (K : Int) ∧ K ≤ len1 ∧ I ≤ 15 * K ∧ Rel w room I O wr) (fun _ _ k _ => len1 - (intOf k).toNat)
  case atStart => exact ⟨0, 0, 0, rfl, rfl, rfl, by omega, by omega, by omega, hK.belowW, _, _, hR⟩
  case round =>
    obtain ⟨I, O, K, rfl, rfl, rfl, hK1, hI, hrl⟩ := hrel
    clear hR hK w1
    by_cases hlt : K < len1
    · obtain ⟨b, off, rfl, hb, hc⟩ := W1.out.cells (by omega)
      obtain ⟨x, hx⟩ : ∃ x, z1.getD K 0 = x := ⟨_, rfl⟩
      have hc0 : w.cell? ⟨b, off + K, none⟩ = some (.int .i64 x) := by rw [← hx]; exact hc K hlt
      have C0 := Lib.hid hc0
      have hcell : wr.cell? ⟨b, off + K, none⟩ = some (.int .i64 x) := (hrl.2.1.cell hb).trans hc0
      obtain ⟨n, hn⟩ : ∃ n, bits .and .i64 x 15 = n := ⟨_, rfl⟩
      have hn1 := and15 x
      rw [hn] at hn1
      obtain ⟨hn0, hn1⟩ := hn1
      clear hx hc hc0
      go_wp2
      clear hn
      go_loopw [6, 10] (fun i k wr => ∃ I' J : Nat, i = .int .i64 (I' : Int) ∧ k = .int .i64 (J : Int) ∧ (J : Int) ≤ n ∧ I' ≤ 15 * K + J ∧ Rel w room I' O wr) (fun _ k _ => (n - intOf k).toNat)
      case atStart => exact ⟨I, 0, rfl, rfl, by omega, by omega, hrl⟩
      case round =>
        clear hrl hcell hI
        obtain ⟨I', J, rfl, rfl, hJ, hI, hOI, hbel, a, c, hR⟩ := hrel
        have hlen := seqI_len O (I' - O)
        have HL := Lib.hid hlen
        clear hlen
        by_cases hj : (J : Int) < n
        · by_cases hf : (seqI O (I' - O)).length < room
          · go_wp2_with (go_at_call 12; refine (push_yes hR _ hf).mono ?_; rintro e w2 ⟨rfl, hr⟩; have R1 := Lib.hid hr; clear hr)
            go_roundw
            case rel =>
              obtain ⟨a2, c2, hR2, hK2, _⟩ := R1.out
              rw [show (I' : Int) = ((O + (I' - O) : Nat) : Int) by omega, seqI_snoc, show I' - O + 1 = I' + 1 - O by omega] at hR2
              exact ⟨I' + 1, J + 1, by go_num, by go_num, by omega, by omega, by omega, (hR.alloc _).after (hbel.alloc hbel.size _) hK2, _, _, hR2⟩
            case measure => simp [intOf]; omega
          · go_wp2_with (go_at_call 12; refine (push_no hR _ (by omega)).mono ?_; rintro e w2 ⟨rfl, hr⟩; have R1 := Lib.hid hr; clear hr)
            go_roundw
            case rel =>
              obtain ⟨a2, c2, hR2, hK2, _⟩ := R1.out
              exact ⟨I', J + 1, rfl, by go_num, by omega, by omega, by omega, (hR.alloc _).after (hbel.alloc hbel.size _) hK2, _, _, hR2⟩
            case measure => simp [intOf]; omega
        · have hcell : wr.cell? ⟨b, off + K, none⟩ = some (.int .i64 x) := (hbel.cell hb).trans C0.out
          go_wp2
          clear hcell
          go_loopw [7, 11] (fun o k wr => ∃ O' J' : Nat, o = .int .i64 (O' : Int) ∧ k = .int .i64 (J' : Int) ∧ J' ≤ 15 ∧ Rel w room I' O' wr) (fun _ k _ => 15 - (intOf k).toNat)
          case atStart => exact ⟨O, 0, rfl, rfl, by omega, hOI, hbel, a, c, hR⟩
          case round =>
            clear hR HL hbel hOI
            obtain ⟨O', J', rfl, rfl, hJ', hOI, hbel, a, c, hR⟩ := hrel
            have hcell : wr.cell? ⟨b, off + K, none⟩ = some (.int .i64 x) := (hbel.cell hb).trans C0.out
            obtain ⟨m, hm⟩ : ∃ m, bits .and .i64 (x / 16) 15 = m := ⟨_, rfl⟩
            have hm1 := and15 (x / 16)
            rw [hm] at hm1
            obtain ⟨_, hm1⟩ := hm1
            by_cases hj3 : (J' : Int) < m
            · by_cases ho : O' < I'
              · obtain ⟨r, hr⟩ : ∃ r, I' - O' = r + 1 := ⟨I' - O' - 1, by omega⟩
                rw [hr] at hR
                have ho' : (O' : Int) < (I' : Int) := by omega
                have HR := Lib.hid hr
                clear hr
                go_wp2_with (go_at_call 13; refine (RI.pop_cons hR).mono ?_; rintro e w2 ⟨rfl, hr⟩; have R1 := Lib.hid hr; clear hr)
                go_roundw
                case rel =>
                  obtain ⟨a2, c2, hR2, hK2, _⟩ := R1.out
                  rw [show r = I' - (O' + 1) by have := HR.out; omega] at hR2
                  exact ⟨O' + 1, J' + 1, by go_num, by go_num, by omega, by omega, hR.after hbel hK2, _, _, hR2⟩
                case measure => simp [intOf]; omega
              · have ho' : ¬ (O' : Int) < (I' : Int) := by omega
                rw [show I' - O' = 0 by omega] at hR
                go_wp2_with (go_at_call 13; refine (RI.pop_nil hR).mono ?_; rintro e w2 ⟨rfl, rfl⟩)
                go_roundw
                case rel =>
                  exact ⟨O', J' + 1, rfl, by go_num, by omega, by omega, hbel, a, c, by rw [show I' - O' = 0 by omega]; exact hR⟩
                case measure => simp [intOf]; omega
            · have hle := hR.le
              rw [seqI_len] at hle
              obtain ⟨L, hL⟩ : ∃ L : Int, L = (I' : Int) - (O' : Int) := ⟨_, rfl⟩
              have e0 : ((seqI O' (I' - O')).length : Int) = L := by rw [seqI_len]; omega
              have E0 := Lib.hid e0
              have e1 : (L != (I' : Int) - (O' : Int)) = false := by rw [hL]; simp
              have e3 : ¬ (room : Int) < L := by omega
              have e4 : 0 ≤ L := by omega
              have E2 : Hid ((room : Int) - ((seqI O' (I' - O')).length : Int) = (room : Int) - L) := by show _ = _; rw [e0]
              clear hL e0
              go_wp2_with (first
                | (go_at_call 14; refine (RI.len_is hR L E0.out).mono ?_; rintro e w' ⟨rfl, rfl⟩)
                | (go_at_call 14; refine (RI.len_is (hR.drewN _) L E0.out).mono ?_; rintro e w' ⟨rfl, rfl⟩)
                | (go_at_call 15; refine (RI.room_is hR _ E2.out).mono ?_; rintro e w' ⟨rfl, nn, rfl⟩))
              go_roundw
              case rel =>
                exact ⟨I', O', K + 1, rfl, rfl, by go_num, by omega, by omega, hOI, belowDrewN hbel _, a, c, hR.drewN _⟩
              case measure => simp [intOf]; omega
    · obtain rfl : K = len1 := by omega
      obtain ⟨_, hbel, a, c, hR⟩ := hrl
      go_wp2_with (go_at_call 10; refine (RI.alive_any _).mono ?_; rintro e w' ⟨rfl, hb⟩)
      go_ret
      exact ⟨rfl, hbel.trans (hb.mono hbel.size)⟩
end Go.Proofs.Ythnlfgogibjbnaa.ringRound
