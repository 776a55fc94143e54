/- commonsbook.Book: Apart. No condition. -/
import Derived.Test.YthnlfgogibjbnaaGreatRb10
namespace Go.Proofs.YthnlfgogibjbnaaGreat.RB
set_option maxRecDepth 100000
set_option maxRecDepth 100000
open Go.RowKit Go.Proofs.YthnlfgogibjbnaaGreat.Bk
set_option linter.unusedVariables false
set_option linter.unusedSimpArgs false

theorem doneL_lists {aI : Option Addr} {L : List Ls} {b : Nat} (h : listsF aI (doneL L) b) : listsF aI L b := by
  rcases h with h | ⟨m, hm, h⟩
  · exact .inl h
  · obtain ⟨q, hq⟩ := List.getElem?_of_mem hm
    rw [doneL_get] at hq
    cases hl : L[q]? with
    | none => rw [hl] at hq; cases hq
    | some l =>
      rw [hl] at hq
      simp at hq
      subst hq
      exact .inr ⟨l, List.mem_of_getElem? hl, h⟩
theorem doneL_marks (L : List Ls) : ∀ q l, (doneL L)[q]? = some l → l.xs = marks q 0 l.xs.length := by
  intro q l h
  rw [doneL_get] at h
  cases hl : L[q]? with
  | none => rw [hl] at h; cases h
  | some l0 =>
    rw [hl] at h
    simp at h
    subst h
    simp [marks_len]
theorem doneL_small {L : List Ls} {N : Nat} (h : ∀ l ∈ L, l.xs.length ≤ N) : ∀ l ∈ doneL L, l.xs.length ≤ N := by
  intro l hl
  obtain ⟨q, hq⟩ := List.getElem?_of_mem hl
  rw [doneL_get] at hq
  cases hl0 : L[q]? with
  | none => rw [hl0] at hq; cases hq
  | some l0 =>
    rw [hl0] at hq
    simp at hq
    subst hq
    simp only [marks_len]
    exact h l0 (List.mem_of_getElem? hl0)
theorem end_keeps {w W1 w2 w3 w5 : World} {aI : Option Addr} {L : List Ls} (h1 : Keeps (listsF aI L) w W1) (h2 : Keeps (listsF aI L) W1 w2) (h3 : Keeps (listsF aI (doneL L)) w2 w3) (h4 : Below w3.heap.size w3 w5) : Keeps (listsF aI L) w w5 :=
  (((h1.trans h2 (fun _ _ h => h)).trans (h3.mono fun _ _ h => doneL_lists h) (fun _ _ h => h)).trans (Keeps.of_below h4 (fun _ => False)) (fun _ _ h => h.elim))
set_option maxHeartbeats 40000000 in
theorem apart_any {w : World} {B k cI cW : Nat} {aI aW : Option Addr} {L M : List Ls} (h : BookAt w B k aI cI aW cW L M) (hLM : M.map (fun l => l.xs) = L.map (fun l => l.xs)) (hL : L.length ≤ 200) (hx : ∀ l ∈ L, l.xs.length ≤ 10000) :
    Calls Tryz.prog 20 #[.pointer (some ⟨k, 0, none⟩)] w fun e w' => e = .returned (.bool true) ∧ Keeps (listsF aI L) w w' := by
  have ks := still_Ints h hLM hL (fun l hl => by have := hx l hl; omega)
  have HH := Lib.hid h
  have HX := Lib.hid hx
  have HLn := Lib.hid hL
  have HB := Lib.hid h.blk
  have hdr_ := fun m => h.blk.drewN m
  clear h hLM hx hL
  go_enter Tryz.func20, Tryz.ntmps20
  go_upto_region 5 with (first
    | (go_at_call 23; refine (still_Texts w k (HB.out.cell 0)).mono ?_; rintro e w' ⟨rfl, rfl⟩)
    | (go_at_call 24; refine ks.mono ?_; rintro e w' ⟨rfl, m0, rfl⟩; clear ks))
  obtain ⟨W1, hW1⟩ : ∃ x, w.drewN m0 = x := ⟨_, rfl⟩
  have hb1 := HH.out.old (belowDrewN (belowSame w) m0)
  have kb1 : Keeps (listsF aI L) w (w.drewN m0) := Keeps.of_below (belowDrewN (belowSame w) m0) _
  rw [hW1] at hb1 kb1
  rw [hW1]
  have HB1 := Lib.hid hb1.blk
  have HK1 := Lib.hid kb1
  have kp := put_Ints hb1.bookI HLn.out (fun l hl => by have := HX.out l hl; omega)
  clear hb1 kb1 hW1 hdr_
  go_upto_region 46 with (first
    | (go_at_call 25; refine (still_Nums W1 k (HB1.out.cell 4)).mono ?_; rintro e w' ⟨rfl, rfl⟩)
    | (go_at_call 26; refine (still_Spans W1 k (HB1.out.cell 6)).mono ?_; rintro e w' ⟨rfl, rfl⟩)
    | (go_at_call 27; refine (still_Locks W1 k (HB1.out.cell 8)).mono ?_; rintro e w' ⟨rfl, rfl⟩)
    | (go_at_call 28; refine (still_Images W1 k (HB1.out.cell 10)).mono ?_; rintro e w' ⟨rfl, rfl⟩)
    | (go_at_call 29; refine (still_Records W1 k (HB1.out.cell 12)).mono ?_; rintro e w' ⟨rfl, rfl⟩)
    | (go_at_call 30; refine (still_Packets W1 k (HB1.out.cell 14)).mono ?_; rintro e w' ⟨rfl, rfl⟩)
    | (go_at_call 31; refine (still_Frames W1 k (HB1.out.cell 16)).mono ?_; rintro e w' ⟨rfl, rfl⟩)
    | (go_at_call 32; refine (still_Waits W1 k (HB1.out.cell 18)).mono ?_; rintro e w' ⟨rfl, rfl⟩)
    | (go_at_call 33; refine (still_Revokes W1 k (HB1.out.cell 20)).mono ?_; rintro e w' ⟨rfl, rfl⟩)
    | (go_at_call 34; refine (still_Entries W1 k (HB1.out.cell 22)).mono ?_; rintro e w' ⟨rfl, rfl⟩)
    | (go_at_call 35; refine (still_Parts W1 k (HB1.out.cell 24)).mono ?_; rintro e w' ⟨rfl, rfl⟩)
    | (go_at_call 36; refine (still_Msgs W1 k (HB1.out.cell 26)).mono ?_; rintro e w' ⟨rfl, rfl⟩)
    | (go_at_call 37; refine (still_Steps W1 k (HB1.out.cell 28)).mono ?_; rintro e w' ⟨rfl, rfl⟩)
    | (go_at_call 38; refine (put_Records W1 k (HB1.out.cell 12)).mono ?_; rintro e w' ⟨rfl, rfl⟩)
    | (go_at_call 39; refine (put_Msgs W1 k (HB1.out.cell 26)).mono ?_; rintro e w' ⟨rfl, rfl⟩)
    | (go_at_call 40; refine (put_Steps W1 k (HB1.out.cell 28)).mono ?_; rintro e w' ⟨rfl, rfl⟩)
    | (go_at_call 41; refine (put_Texts W1 k (HB1.out.cell 0)).mono ?_; rintro e w' ⟨rfl, rfl⟩)
    | (go_at_call 42; refine kp.mono ?_; rintro e w2 ⟨rfl, hi2, hk2⟩; have HI2 := Lib.hid hi2; have HBP := Lib.hid hi2.blk; have HK2 := Lib.hid hk2; clear hi2 hk2 kp)
    | (go_at_call 43; refine (put_Nums w2 k (HBP.out.cell 4)).mono ?_; rintro e w' ⟨rfl, rfl⟩)
    | (go_at_call 44; refine (put_Spans w2 k (HBP.out.cell 6)).mono ?_; rintro e w' ⟨rfl, rfl⟩)
    | (go_at_call 45; refine (put_Locks w2 k (HBP.out.cell 8)).mono ?_; rintro e w' ⟨rfl, rfl⟩)
    | (go_at_call 46; refine (put_Images w2 k (HBP.out.cell 10)).mono ?_; rintro e w' ⟨rfl, rfl⟩)
    | (go_at_call 47; refine (put_Packets w2 k (HBP.out.cell 14)).mono ?_; rintro e w' ⟨rfl, rfl⟩)
    | (go_at_call 48; refine (put_Frames w2 k (HBP.out.cell 16)).mono ?_; rintro e w' ⟨rfl, rfl⟩)
    | (go_at_call 49; refine (put_Waits w2 k (HBP.out.cell 18)).mono ?_; rintro e w' ⟨rfl, rfl⟩)
    | (go_at_call 50; refine (put_Revokes w2 k (HBP.out.cell 20)).mono ?_; rintro e w' ⟨rfl, rfl⟩)
    | (go_at_call 51; refine (put_Entries w2 k (HBP.out.cell 22)).mono ?_; rintro e w' ⟨rfl, rfl⟩)
    | (go_at_call 52; refine (put_Parts w2 k (HBP.out.cell 24)).mono ?_; rintro e w' ⟨rfl, rfl⟩))
  have hL2 := HI2.out
  have hlk : Blk w2 k TB (bcells (.slice aI (doneL L).length cI) (.slice aW M.length cW)) := hL2.blk
  have kg := grow_Ints hL2 (by rw [doneL_len]; exact HLn.out) (doneL_marks L) (doneL_small HX.out)
  have HB2 := Lib.hid hlk
  obtain ⟨n, hn⟩ : ∃ n, (doneL L).length = n := ⟨_, rfl⟩
  have hn200 : n ≤ 200 := by rw [← hn, doneL_len]; exact HLn.out
  have hcI := own_caps hL2.i.row
  rw [hn] at kg hcI
  have hki := hL2.i.lt
  have hkk : ¬ listsF aI (doneL L) k := by
    intro e
    rcases e with e | ⟨m, hm, e⟩
    · exact row_k hL2.i.row hL2.blk (by decide) e
    · exact row_k (hL2.i.own m hm) hL2.blk (by decide) e
  have HKK := Lib.hid hkk
  have HN := Lib.hid hn
  clear hL2 hlk hki hkk hn
  go_upto_region 61 with (first
    | (go_at_call 53; refine (grow_Texts w2 k (HB2.out.cell 0)).mono ?_; rintro e w' ⟨rfl, rfl⟩)
    | (go_at_call 54; refine kg.mono ?_; rintro e w3 ⟨ao, co, G, rfl, hg1, hg2, hg3⟩; have HG3 := Lib.hid hg3; have HBG := Lib.hid (HB2.out.keeps hg3.2.2.1 HKK.out); clear hg3 kg)
    | (go_at_call 55; refine (grow_Nums w3 k (HBG.out.cell 4)).mono ?_; rintro e w' ⟨rfl, rfl⟩)
    | (go_at_call 56; refine (grow_Spans w3 k (HBG.out.cell 6)).mono ?_; rintro e w' ⟨rfl, rfl⟩)
    | (go_at_call 57; refine (grow_Locks w3 k (HBG.out.cell 8)).mono ?_; rintro e w' ⟨rfl, rfl⟩)
    | (go_at_call 58; refine (grow_Images w3 k (HBG.out.cell 10)).mono ?_; rintro e w' ⟨rfl, rfl⟩)
    | (go_at_call 59; refine (grow_Records w3 k (HBG.out.cell 12)).mono ?_; rintro e w' ⟨rfl, rfl⟩)
    | (go_at_call 60; refine (grow_Packets w3 k (HBG.out.cell 14)).mono ?_; rintro e w' ⟨rfl, rfl⟩)
    | (go_at_call 61; refine (grow_Frames w3 k (HBG.out.cell 16)).mono ?_; rintro e w' ⟨rfl, rfl⟩)
    | (go_at_call 62; refine (grow_Waits w3 k (HBG.out.cell 18)).mono ?_; rintro e w' ⟨rfl, rfl⟩)
    | (go_at_call 63; refine (grow_Revokes w3 k (HBG.out.cell 20)).mono ?_; rintro e w' ⟨rfl, rfl⟩)
    | (go_at_call 64; refine (grow_Entries w3 k (HBG.out.cell 22)).mono ?_; rintro e w' ⟨rfl, rfl⟩)
    | (go_at_call 65; refine (grow_Parts w3 k (HBG.out.cell 24)).mono ?_; rintro e w' ⟨rfl, rfl⟩)
    | (go_at_call 66; refine (grow_Msgs w3 k (HBG.out.cell 26)).mono ?_; rintro e w' ⟨rfl, rfl⟩)
    | (go_at_call 67; refine (grow_Steps w3 k (HBG.out.cell 28)).mono ?_; rintro e w' ⟨rfl, rfl⟩))
  have hb3 := (HB2.out.keeps HG3.out.2.2.1 HKK.out)
  rw [HN.out] at hb3
  have HB3 := Lib.hid hb3
  have k0 : w3.cell? ⟨k, 0, none⟩ = some (.slice none 0 0) := hb3.cell 0
  have km1 := marked_Ints HG3.out.1 hn200 hg1 hg2 (fun l hl => by have := HG3.out.2.2.2 l hl; omega)
  clear hb3
  go_wp2_with (first
    | (go_at_call 68; refine (marked_Texts w3).mono ?_; rintro e w' ⟨rfl, rfl⟩)
    | (go_at_call 69; refine km2.mono ?_; rintro e w5 ⟨rfl, hb⟩; have hb5 := HB4.out.below hb HB4.out.lt; have k4 : w5.cell? ⟨k, 4, none⟩ = some (.slice none 0 0) := hb5.cell 4; have k6 : w5.cell? ⟨k, 6, none⟩ = some (.slice none 0 0) := hb5.cell 6; have k8 : w5.cell? ⟨k, 8, none⟩ = some (.slice none 0 0) := hb5.cell 8; have k10 : w5.cell? ⟨k, 10, none⟩ = some (.slice none 0 0) := hb5.cell 10; have k12 : w5.cell? ⟨k, 12, none⟩ = some (.slice none 0 0) := hb5.cell 12; have k14 : w5.cell? ⟨k, 14, none⟩ = some (.slice none 0 0) := hb5.cell 14; have k16 : w5.cell? ⟨k, 16, none⟩ = some (.slice none 0 0) := hb5.cell 16; have k18 : w5.cell? ⟨k, 18, none⟩ = some (.slice none 0 0) := hb5.cell 18; have k20 : w5.cell? ⟨k, 20, none⟩ = some (.slice none 0 0) := hb5.cell 20; have k22 : w5.cell? ⟨k, 22, none⟩ = some (.slice none 0 0) := hb5.cell 22; have k24 : w5.cell? ⟨k, 24, none⟩ = some (.slice none 0 0) := hb5.cell 24; have k26 : w5.cell? ⟨k, 26, none⟩ = some (.slice none 0 0) := hb5.cell 26; have k28 : w5.cell? ⟨k, 28, none⟩ = some (.slice none 0 0) := hb5.cell 28; have HEND := Lib.hid (end_keeps HK1.out HK2.out HG3.out.2.2.1 (belowThen B4.out hb)); clear hb hb5 km2)
    | (go_at_call 69; refine km1.mono ?_; rintro e w4 ⟨rfl, hb⟩; have B4 := Lib.hid hb; have hb4 := HB3.out.below hb HB3.out.lt; have k2 : w4.cell? ⟨k, 2, none⟩ = some (.slice aI n cI) := hb4.cell 2; have HB4 := Lib.hid hb4; have km2 := marked_Ints (HG3.out.2.1.old hb) hn200 hcI.1 hcI.2 (fun l hl => by have := doneL_small HX.out l hl; omega); clear hb hb4 km1)
    | (go_at_call 70; refine (marked_Nums w5).mono ?_; rintro e w' ⟨rfl, rfl⟩)
    | (go_at_call 71; refine (marked_Spans w5).mono ?_; rintro e w' ⟨rfl, rfl⟩)
    | (go_at_call 72; refine (marked_Locks w5).mono ?_; rintro e w' ⟨rfl, rfl⟩)
    | (go_at_call 73; refine (marked_Images w5).mono ?_; rintro e w' ⟨rfl, rfl⟩)
    | (go_at_call 74; refine (marked_Records w5).mono ?_; rintro e w' ⟨rfl, rfl⟩)
    | (go_at_call 75; refine (marked_Packets w5).mono ?_; rintro e w' ⟨rfl, rfl⟩)
    | (go_at_call 76; refine (marked_Frames w5).mono ?_; rintro e w' ⟨rfl, rfl⟩)
    | (go_at_call 77; refine (marked_Waits w5).mono ?_; rintro e w' ⟨rfl, rfl⟩)
    | (go_at_call 78; refine (marked_Revokes w5).mono ?_; rintro e w' ⟨rfl, rfl⟩)
    | (go_at_call 79; refine (marked_Entries w5).mono ?_; rintro e w' ⟨rfl, rfl⟩)
    | (go_at_call 80; refine (marked_Parts w5).mono ?_; rintro e w' ⟨rfl, rfl⟩)
    | (go_at_call 81; refine (marked_Msgs w5).mono ?_; rintro e w' ⟨rfl, rfl⟩)
    | (go_at_call 82; refine (marked_Steps w5).mono ?_; rintro e w' ⟨rfl, rfl⟩))
  exact end_ret (t := 2) (v := .bool true) (by kernel_rfl) rfl rfl ⟨rfl, HEND.out⟩
end Go.Proofs.YthnlfgogibjbnaaGreat.RB
