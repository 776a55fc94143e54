/- commonsbook.Book: growInts, the walk. No condition. -/
import Derived.Test.YthnlfgogibjbnaaGreatRb9
namespace Go.Proofs.YthnlfgogibjbnaaGreat.RB
set_option maxRecDepth 100000
set_option maxRecDepth 100000
open Go.RowKit Go.Proofs.YthnlfgogibjbnaaGreat.Bk
set_option linter.unusedVariables false
set_option linter.unusedSimpArgs false

set_option maxHeartbeats 4000000 in
theorem grow_Ints {w : World} {B k cI : Nat} {aI : Option Addr} {V : Value} {L : List Ls} (h : BookI w B k aI cI V L) (hL : L.length ≤ 200) (hm : ∀ q l, L[q]? = some l → l.xs = marks q 0 l.xs.length) (hx : ∀ l ∈ L, l.xs.length ≤ 10000) :
    Calls Tryz.prog 54 #[.pointer (some ⟨k, 0, none⟩)] w (GrowOut w aI L.length L) := by
  obtain ⟨i0, hi, hz0, hz1, hz2⟩ := info_parts infoI
  obtain ⟨j0, gi, gz0, gz1, gz2⟩ := info_parts infoL
  obtain ⟨n, hnl⟩ : ∃ n, L.length = n := ⟨_, rfl⟩
  rw [hnl]
  have k2 := own_caps h.i.row
  rw [hnl] at k2
  unfold maxLen at k2
  have hbb : B ≤ w.heap.size := by have := h.ge; have := h.blk.lt; omega
  have HH := Lib.hid h
  have HN := Lib.hid hnl
  have HX := Lib.hid hx
  have HM := Lib.hid hm
  have hn2 : n ≤ 200 := by omega
  clear h hnl hx hL hm
  go_enter Tryz.func54, Tryz.ntmps54
  go_wp2
  go_loopw [3, 4] (fun s q wr => ∃ (i co : Nat) (ao : Option Addr) (G : List Ls), i ≤ n ∧ q = .int .i64 (i : Int) ∧ s = .slice ao i co ∧ Hid (GrowAt w B L i ao co G wr)) (fun _ q _ => n - (intOf q).toNat)
  case atStart => exact ⟨0, 0, none, [], by omega, rfl, rfl, Lib.hid (GrowAt.start w B L)⟩
  case round =>
    obtain ⟨i, co, ao, G, hi9, rfl, rfl, HP⟩ := hrel
    obtain ⟨w9, hw9⟩ : ∃ x, x = wr := ⟨_, rfl⟩
    subst hw9
    have c2 : w9.cell? ⟨k, 2, none⟩ = some (.slice aI n cI) := by have := (HP.out.book HH.out).cell 2; rwa [HN.out] at this
    by_cases hlt : i < n
    · obtain ⟨l, hl⟩ : ∃ l, L[i]? = some l := ⟨_, List.getElem?_eq_getElem (by rw [HN.out]; exact hlt)⟩
      have hrow := HP.out.row HH.out
      obtain ⟨bI, rfl⟩ := own_place hrow (by rw [HN.out]; omega)
      have x0 := hrow.cells (g := bI) rfl i (hdr l) (by simp [hl])
      rw [Go.WideShapes.add_plain, Nat.zero_add] at x0
      unfold hdr at x0
      have hlx := HX.out l (List.mem_of_getElem? hl)
      have hlm := HM.out i l hl
      obtain ⟨z, hz⟩ : ∃ z, l.xs.length = z := ⟨_, rfl⟩
      rw [hz] at x0 hlx hlm
      have hown := HP.out.list HH.out hl
      have hla : 0 < z → ∃ g, l.a = some ⟨g, 0, none⟩ := fun h0 => own_place hown (by omega)
      have H0 := Lib.hid (Cur.start (show OwnL w9 B ⟨l.a, l.c, l.xs⟩ from hown) hlm)
      have HLA := Lib.hid hla
      have HL := Lib.hid (And.intro hl hlm)
      have hi0 : (0 : Int) ≤ (i : Int) := by omega
      have hi1 : (i : Int) < (n : Int) := by omega
      have hB9 : B ≤ w9.heap.size := by have := HP.out.2.2.2.size; omega
      have hsz : w.heap.size ≤ w9.heap.size := HP.out.2.2.2.size
      have HSZ := Lib.hid (And.intro hB9 hsz)
      clear hrow hl hlm hz hown hla hsz
      obtain ⟨la, lc, lx⟩ := l
      dsimp only at x0 H0 HLA
      go_wp2_with fail
      go_loopw [5, 6] (fun s q wx => ∃ (j N : Nat) (a5 : Option Addr) (c5 : Nat), j ≤ 12 ∧ q = .int .i64 (j : Int) ∧ s = .slice a5 N c5 ∧ Hid (N = z + j ∧ Cur w9 B la z i j a5 c5 wx)) (fun _ q _ => 12 - (intOf q).toNat)
      case atStart => exact ⟨0, z, la, lc, by omega, rfl, rfl, Lib.hid ⟨by omega, H0.out⟩⟩
      case round =>
        obtain ⟨j, N, a5, c5, hj, rfl, rfl, HQ⟩ := hrel
        have hN : N ≤ 10012 := by have := HQ.out.1; omega
        by_cases hlt2 : j < 12
        · have km := mark_ints i N 1 wr (by omega) (by omega) (by omega)
          rw [show ((1 : Nat) : Int) = 1 from rfl] at km
          have hB8 : B ≤ wr.heap.size := by have := HQ.out.2.2.2.2.size; have := HSZ.out.1; omega
          have f6 : ∀ (w1 w2 : World) (a6 : Option Addr) (c6 : Nat), Below wr.heap.size wr w1 → w2.ownsRow B TI 1 (.slice a6 (N + 1) c6) (N + 1) ((marks i 0 N).map val ++ (marks i N 1).map val) → w2.ownsRow B TI 1 (.slice a5 N c5) N ((marks i 0 N).map val) → w1.grownBy w2 (Value.slice a5 0 0).ownBlock → ((Value.slice a6 0 0).ownBlock = (Value.slice a5 0 0).ownBlock ∨ (Value.slice a6 0 0).ownBlock = some w1.heap.size) → Cur w9 B la z i (j + 1) a6 c6 w2 := by
            intro w1 w2 a6 c6 hb ho hk hg hat
            have e := HQ.out.1
            have hq := HQ.out.2
            rw [e] at ho hk
            exact hq.step (m := 1) HLA.out hb ho hk hg hat
          have F6 := Lib.hid f6
          clear f6
          clear c2 x0
          go_wp2_with (first
            | (go_at_call 101; refine km.mono ?_; rintro e w1 ⟨am, cm, rfl, hom, hb1⟩; have B1 := Lib.hid hb1; have OM := Lib.hid hom; have hB1 : B ≤ w1.heap.size := Nat.le_trans hB8 hb1.size; have hr1 := (HQ.out.2.old hb1).1; rw [← HQ.out.1] at hr1; clear hom hb1 km)
            | (at_builtin; refine wpList_append_kept _ rfl _ _ 27 rfl B TI i0 _ 1 8 Tryz.underlying27 hi hz0 hz1 hz2 rfl (by decide) a5 N c5 ((marks i 0 N).map val) rfl hr1 am 1 cm ((marks i N 1).map val) rfl (Lies.of_own OM.out) (ones _) (by unfold maxLen; omega) (by omega) hB1 ?_; intro a6 c6 w2 ho hk hg hat; have h6 := F6.out w1 w2 a6 c6 B1.out ho hk hg hat; have H6 := Lib.hid h6; clear h6 ho hk hg hat hr1))
          go_roundw
          case rel => exact ⟨j + 1, N + 1, a6, c6, by omega, by go_num, rfl, Lib.hid ⟨by have := HQ.out.1; omega, H6.out⟩⟩
          case measure => simp [intOf]; omega
        · obtain rfl : j = 12 := by omega
          have km := mark_ints i N 60 wr (by omega) (by omega) (by omega)
          rw [show ((60 : Nat) : Int) = 60 from rfl] at km
          have hB8 : B ≤ wr.heap.size := by have := HQ.out.2.2.2.2.size; have := HSZ.out.1; omega
          have hS8 : w.heap.size ≤ wr.heap.size := by have := HQ.out.2.2.2.2.size; have := HSZ.out.2; omega
          have f6 : ∀ (w1 w2 : World) (a6 : Option Addr) (c6 : Nat), Below wr.heap.size wr w1 → w2.ownsRow B TI 1 (.slice a6 (N + 60) c6) (N + 60) ((marks i 0 N).map val ++ (marks i N 60).map val) → w2.ownsRow B TI 1 (.slice a5 N c5) N ((marks i 0 N).map val) → w1.grownBy w2 (Value.slice a5 0 0).ownBlock → ((Value.slice a6 0 0).ownBlock = (Value.slice a5 0 0).ownBlock ∨ (Value.slice a6 0 0).ownBlock = some w1.heap.size) → Cur w9 B la z i (12 + 60) a6 c6 w2 := by
            intro w1 w2 a6 c6 hb ho hk hg hat
            have e := HQ.out.1
            have hq := HQ.out.2
            rw [e] at ho hk
            exact hq.step (m := 60) HLA.out hb ho hk hg hat
          have F6 := Lib.hid f6
          clear f6
          have f7 : ∀ (w2 w4 : World) (a6 a7 : Option Addr) (c6 c7 : Nat), Cur w9 B la z i 72 a6 c6 w2 → w4.ownsRow w.heap.size TL 1 (.slice a7 (i + 1) c7) (i + 1) (G.map hdr ++ [.slice a6 (N + 60) c6]) → (w2.alloc (.cells #[.slice a6 (N + 60) c6] 27)).grownBy w4 (Value.slice ao 0 0).ownBlock → GrowAt w B L (i + 1) a7 c7 (G ++ [⟨a6, c6, marks i 0 (z + 72)⟩]) w4 := by
            intro w2 w4 a6 a7 c6 c7 hc ho hg
            have e := HQ.out.1
            rw [e, Nat.add_assoc] at ho hg
            exact HP.out.next HH.out HL.out.1 HL.out.2 hc ho hg
          have F7 := Lib.hid f7
          clear f7
          clear c2 x0
          go_wp2_with (first
            | (go_at_call 101; refine km.mono ?_; rintro e w1 ⟨am, cm, rfl, hom, hb1⟩; have B1 := Lib.hid hb1; have OM := Lib.hid hom; have hB1 : B ≤ w1.heap.size := Nat.le_trans hB8 hb1.size; have hS1 : w.heap.size ≤ w1.heap.size := Nat.le_trans hS8 hb1.size; have hr1 := (HQ.out.2.old hb1).1; rw [← HQ.out.1] at hr1; clear hom hb1 km)
            | (at_builtin; refine wpList_append_lie _ rfl _ _ 32 rfl w.heap.size TL j0 _ 1 24 Tryz.underlying32 gi gz0 gz1 gz2 rfl (by decide) ao i co (G.map hdr) rfl (HO6.out.alloc _) (some ⟨w2.heap.size, 0, none⟩) 1 1 [.slice a6 (N + 60) c6] rfl (Lies.of_blk (cs := #[.slice a6 (N + 60) c6]) (Blk.new _ _ _)) (by intro u hu; simp at hu; subst hu; rfl) (by unfold maxLen; omega) (by omega) hS2 ?_; intro a7 c7 w4 ho hg hat; have h7 := F7.out w2 w4 a6 a7 c6 c7 H6.out ho hg; have H7 := Lib.hid h7; clear h7 ho hg hat)
            | (at_builtin; refine wpList_append_kept _ rfl _ _ 27 rfl B TI i0 _ 1 8 Tryz.underlying27 hi hz0 hz1 hz2 rfl (by decide) a5 N c5 ((marks i 0 N).map val) rfl hr1 am 60 cm ((marks i N 60).map val) rfl (Lies.of_own OM.out) (ones _) (by unfold maxLen; omega) (by omega) hB1 ?_; intro a6 c6 w2 ho hk hg hat; have hs2 := hg.size; have hS2 : w.heap.size ≤ (w2.alloc (.cells #[.slice a6 (N + 60) c6] 27)).heap.size := by { simp; omega }; have h6 : Cur w9 B la z i 72 a6 c6 w2 := F6.out w1 w2 a6 c6 B1.out ho hk hg hat; have HO6 := Lib.hid (HP.out.outKept HH.out HL.out.1 h6); have H6 := Lib.hid h6; clear h6 ho hk hg hat hr1 hs2))
          go_roundw
          case rel => exact ⟨i + 1, c7, a7, _, by omega, by go_num, rfl, H7⟩
          case measure => simp [intOf]; omega
    · obtain rfl : i = n := by omega
      go_wp2_with fail
      go_ret
      have := HP.out
      have hn := HN.out
      subst hn
      exact this.done HH.out HM.out HX.out
end Go.Proofs.YthnlfgogibjbnaaGreat.RB
