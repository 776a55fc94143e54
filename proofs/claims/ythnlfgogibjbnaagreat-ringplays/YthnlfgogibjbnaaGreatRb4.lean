/- commonsbook.Book: Ints, one more list. No condition. -/
import Derived.Test.YthnlfgogibjbnaaGreatRb3
import Derived.Deep.Cut
import Derived.Deep.CutRange
import Derived.Deep.RegionLaw
namespace Go.Proofs.YthnlfgogibjbnaaGreat.RB
set_option maxRecDepth 100000
set_option maxRecDepth 100000
open Go.RowKit Go.Proofs.YthnlfgogibjbnaaGreat.Bk
set_option linter.unusedVariables false
set_option linter.unusedSimpArgs false

theorem infoL : (Tryz.prog.info? TL).map (fun i => (i.zero, i.size, i.bytes)) = some (some (.slice none 0 0), 1, 24) := by kernel_rfl
def IntsOut (w : World) (B k : Nat) (aI aW : Option Addr) (L M : List Ls) (l : Ls) (w' : World) : Prop :=
  ∃ aI' cI' aW' cW' m, m.xs = l.xs ∧ BookAt w' B k aI' cI' aW' cW' (L ++ [l]) (M ++ [m]) ∧ Keeps (fun b => bookF k aI aW L M b ∨ ob l.a = some b) w w' ∧ ∀ b, bookF k aI' aW' (L ++ [l]) (M ++ [m]) b → bookF k aI aW L M b ∨ ob l.a = some b ∨ w.heap.size ≤ b
theorem ones_hdr (L : List Ls) : ∀ u ∈ L.map hdr, u.oneCell' = true := by
  intro u hu
  obtain ⟨z, _, rfl⟩ := List.mem_map.1 hu
  rfl
set_option maxHeartbeats 4000000 in
theorem ints_any {w : World} {B k cI cW : Nat} {aI aW : Option Addr} {L M : List Ls} (h : BookAt w B k aI cI aW cW L M) (hL : L.length ≤ 200) (hM : M.length ≤ 200) (la : Option Addr) (lc ln : Nat) (xs : List Int) (hln : xs.length = ln) (hl : OwnL w B ⟨la, lc, xs⟩) (hd : ∀ b, ob la = some b → ¬ bookF k aI aW L M b) (hn : xs.length ≤ 100000) :
    Calls Tryz.prog 16 #[.pointer (some ⟨k, 0, none⟩), .slice la ln lc] w fun e w' => e = .returned (.tuple #[]) ∧ IntsOut w B k aI aW L M ⟨la, lc, xs⟩ w' := by
  subst hln
  obtain ⟨i0, hi, hz0, hz1, hz2⟩ := info_parts infoL
  obtain ⟨n, hnl⟩ : ∃ n, L.length = n := ⟨_, rfl⟩
  obtain ⟨m, hml⟩ : ∃ m, M.length = m := ⟨_, rfl⟩
  have c2 : w.cell? ⟨k, 2, none⟩ = some (.slice aI n cI) := hnl ▸ h.blk.cell 2
  have d0 : (n : Int) < 250 := by omega
  have hn200 : n ≤ 200 := by omega
  have hm200 : m ≤ 200 := by omega
  have hbase := h.base
  have hrow := h.i.row
  rw [hnl] at hrow
  have hrow2 := hrow.alloc (.cells #[.slice la xs.length lc] TL)
  have hki : ob aI ≠ some k := row_k h.i.row h.blk (by decide)
  have HI := Lib.hid hki
  have HH := Lib.hid h
  have HL := Lib.hid hl
  have HD := Lib.hid hd
  have HN := Lib.hid (And.intro hnl hml)
  have HX := Lib.hid hn
  clear hki h hl hd hnl hml hrow hn hL hM
  go_enter Tryz.func16, Tryz.ntmps16
  go_upto_region 2 with (at_builtin; refine wpList_append_lie _ rfl _ _ 32 rfl B TL i0 _ 1 24 Tryz.underlying32 hi hz0 hz1 hz2 rfl (by decide) aI n cI (L.map hdr) rfl hrow2 (some ⟨w.heap.size, 0, none⟩) 1 1 [.slice la xs.length lc] rfl (Lies.of_blk (cs := #[.slice la xs.length lc]) (Blk.new _ _ _)) (by intro u hu; simp at hu; subst hu; rfl) (by unfold maxLen; omega) (by omega) (by simp; omega) ?_; intro a1 c1 w1 ho hg hat; have y0 := ((HH.out.blk.alloc (.cells #[.slice la xs.length lc] TL)).grown hg (fun e => HI.out e.symm)); have y1 : w1.cell? ⟨k, 2, none⟩ = some (.slice aI L.length cI) := y0.cell 2; have y2 : w1.frozen? ⟨k, 2, none⟩ = false := y0.frozen 2; have h3 := HH.out.moreI (l := ⟨la, lc, xs⟩) (belowNew (belowSame w) (.cells #[.slice la xs.length lc] TL)) (by have := HN.out.1; subst this; exact ho) hg hat HL.out HD.out; rw [HN.out.1] at h3; have H3 := Lib.hid h3; clear y0 h3 ho hg hat)
  obtain ⟨W3, hW3⟩ : ∃ W, w1.setCell ⟨k, 2, none⟩ (.slice a1 (n + 1) c1) = W := ⟨_, rfl⟩
  have h3 := H3.out
  rw [hW3] at h3
  rw [hW3]
  have H4 := Lib.hid h3
  clear H3 h3 hW3 y1 y2 c2
  have hbel := H4.out.1
  have c3 : W3.drew.cell? ⟨k, 3, none⟩ = some (.slice aW m cW) := HN.out.2 ▸ hbel.blk.cell 3
  have hl3 : OwnL W3 B ⟨la, lc, xs⟩ := hbel.i.own _ (by simp)
  have kc := fun W (hb : Below W3.heap.size W3 W) => copy_ints la xs.length lc xs W (Lies.of_own (hl3.old hb)) HX.out
  have KC := Lib.hid kc
  have H5 := Lib.hid hbel
  clear hbel hl3 kc hrow2
  have hbw := H5.out.base
  have f5 : ∀ (w5 : World) (a5 : Option Addr) (c5 : Nat), w5.ownsRow W3.drew.heap.size TI 1 (.slice a5 xs.length c5) xs.length (xs.map val) → Below W3.drew.heap.size W3.drew w5 →
      w5.cell? ⟨k, 3, none⟩ = some (.slice aW m cW) ∧ (w5.alloc (.cells #[.slice a5 xs.length c5] 27)).cell? ⟨k, 3, none⟩ = some (.slice aW m cW) ∧ (w5.alloc (.cells #[.slice a5 xs.length c5] 27)).ownsRow B TL 1 (.slice aW m cW) m (M.map hdr) ∧ B ≤ (w5.alloc (.cells #[.slice a5 xs.length c5] 27)).heap.size ∧ Below W3.heap.size W3 (w5.alloc (.cells #[.slice a5 xs.length c5] 27)) := by
    intro w5 a5 c5 ho5 hb5
    have b5 : Below W3.heap.size W3 w5 := belowUndrew hb5
    have b6 := belowNew b5 (.cells #[.slice a5 xs.length c5] 27)
    have r6 := (H5.out.old b6).s.row
    have x5 := (H5.out.old b5).blk.cell 3
    have x6 := (H5.out.old b6).blk.cell 3
    rw [HN.out.2] at r6 x5 x6
    have hs5 := b5.size
    exact ⟨x5, x6, r6, by simp; omega, b6⟩
  have F5 := Lib.hid f5
  have f6 : ∀ (w5 w6 : World) (a5 a6 : Option Addr) (c5 c6 : Nat), w5.ownsRow W3.drew.heap.size TI 1 (.slice a5 xs.length c5) xs.length (xs.map val) → Below W3.heap.size W3 (w5.alloc (.cells #[.slice a5 xs.length c5] 27)) → w6.ownsRow B TL 1 (.slice a6 (m + 1) c6) (m + 1) (M.map hdr ++ [.slice a5 xs.length c5]) → (w5.alloc (.cells #[.slice a5 xs.length c5] 27)).grownBy w6 (Value.slice aW 0 0).ownBlock → ((Value.slice a6 0 0).ownBlock = (Value.slice aW 0 0).ownBlock ∨ (Value.slice a6 0 0).ownBlock = some (w5.alloc (.cells #[.slice a5 xs.length c5] 27)).heap.size) →
      w6.cell? ⟨k, 3, none⟩ = some (.slice aW m cW) ∧ w6.frozen? ⟨k, 3, none⟩ = false ∧ IntsOut w B k aI aW L M ⟨la, lc, xs⟩ (w6.setCell ⟨k, 3, none⟩ (.slice a6 (m + 1) c6)) := by
    intro w5 w6 a5 a6 c5 c6 ho5 b6 ho6 hg6 hat6
    have y0 := ((H5.out.old b6).blk.keeps ((Keeps.refl (fun b => ob aW = some b) _).grown hg6 (fun k e _ => e)) (row_k H5.out.s.row H5.out.blk (by decide)))
    have y1 := y0.cell 3
    rw [HN.out.2] at y1
    have hoL : OwnL (w5.alloc (.cells #[.slice a5 xs.length c5] 27)) B ⟨a5, c5, xs⟩ := (own_base ho5 (fun b hb => by have := (ho5.lt b hb).1; exact Nat.le_trans hbw this)).alloc _
    have h7 := H5.out.moreW (l := ⟨a5, c5, xs⟩) b6 (by have := HN.out.2; subst this; exact ho6) hg6 hat6 hoL (fun b hb => (ho5.lt b (by rw [ob_of]; exact hb)).1)
    rw [HN.out.2] at h7
    have h4 := H4.out
    refine ⟨y1, y0.frozen 3, a1, c1, a6, c6, ⟨a5, c5, xs⟩, rfl, h7.1, ?_, fun b hb => ?_⟩
    · refine ⟨h7.2.1.os.trans h4.2.1.os, h7.2.1.tape.trans h4.2.1.tape, h7.2.1.output.trans h4.2.1.output, Nat.le_trans h4.2.1.size h7.2.1.size, fun b hb hn => ?_⟩
      rw [← h4.2.1.block b hb (fun h => hn (.inl h))]
      refine h7.2.1.block b (Nat.lt_of_lt_of_le hb h4.2.1.size) fun hb2 => ?_
      rcases h4.2.2 b hb2 with h8 | h8 | h8
      · exact hn (.inl h8)
      · exact hn (.inr h8)
      · omega
    · rcases h7.2.2 b hb with h8 | h8
      · exact h4.2.2 b h8
      · exact .inr (.inr (Nat.le_trans h4.2.1.size h8))
  have F6 := Lib.hid f6
  clear f5 f6
  go_region_law (first
    | (go_simp
       (with_reducible refine (KC.out W3.drew (belowDrew (belowSame W3))).mono ?_)
       rintro e w5 ⟨a5, c5, rfl, ho5, hb5⟩
       obtain ⟨x5, x6, r6, hs6, b6⟩ := F5.out w5 a5 c5 ho5 hb5
       have O5 := Lib.hid ho5
       have B6 := Lib.hid b6
       clear ho5 hb5 b6)
    | (refine step_append_lie _ rfl (.tmp 24) (.tmp 27) 32 rfl B TL i0 _ 1 24 Tryz.underlying32 hi hz0 hz1 hz2 rfl (by decide) aW m cW (M.map hdr) (by go_simp) r6 (some ⟨w5.heap.size, 0, none⟩) 1 1 [.slice a5 xs.length c5] (by go_simp) (Lies.of_blk (cs := #[.slice a5 xs.length c5]) (Blk.new _ _ _)) (by intro u hu; simp at hu; subst hu; rfl) (by unfold maxLen; omega) (by omega) hs6 ?_
       intro a6 c6 w6 ho6 hg6 hat6
       obtain ⟨y1, y2, h7⟩ := F6.out w5 w6 a5 a6 c5 c6 O5.out B6.out ho6 hg6 hat6
       have H7 := Lib.hid h7
       clear h7 ho6 hg6 hat6))
  all_goals
    go_wp2_with fail
    refine bodyPost_end (results_none rfl _ _ _) rfl ?_
    exact ⟨rfl, H7.out⟩
end Go.Proofs.YthnlfgogibjbnaaGreat.RB
