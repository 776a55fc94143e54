/- rec: Get of what is no record any more: a sector changed; cut short. No condition. -/
import Derived.Test.YtmfbggdoejcpiaaRec8
namespace Go.Proofs.Ytmfbggdoejcpiaa.RC
open Go.RowKit Go.Proofs.Ytmfbggdoejcpiaa.WI Go.Proofs.Ytmfbggdoejcpiaa.SM
set_option linter.unusedVariables false
set_option linter.unusedSimpArgs false

set_option maxHeartbeats 4000000 in
/-- The first sector is none. -/
theorem get_none (b : ByteArray) (h64 : 64 ≤ b.size) (hb : b.size ≤ 100000) (hf : fitsR (b.extract 0 64) = false) (w : World) :
    Calls Try.prog 10 #[.string b] w fun x w' => x = .returned (.tuple #[.agg #[.int .u64 0, .int .u64 0, .slice none 0 0], .int .i64 0, .int .i64 6]) ∧ Below w.heap.size w w' := by
  have kf := fun W => first_bad b h64 (by omega) hf W
  clear hf
  have hbn := Blk.new w 25 #[.int .u64 0, .int .u64 0, .slice none 0 0]
  have hb0 := (Below.refl _ w).alloc (Nat.le_refl _) (.cells #[.int .u64 0, .int .u64 0, .slice none 0 0] 25)
  obtain ⟨W0, hW0⟩ : ∃ W0, w.alloc (.cells #[.int .u64 0, .int .u64 0, .slice none 0 0] 25) = W0 := ⟨_, rfl⟩
  rw [hW0] at hbn hb0
  obtain ⟨r0, hr0⟩ : ∃ r, w.heap.size = r := ⟨_, rfl⟩
  rw [hr0] at hbn
  have HW0 := Lib.hid hW0
  have HR0 := Lib.hid hr0
  have HBN := Lib.hid hbn
  have HB0 := Lib.hid hb0
  clear hbn hb0 hW0 hr0
  go_enter Try.func10, Try.ntmps10
  go_upto_region 1 with fail
  rw [HW0.out, HR0.out]
  go_wp2_with (go_at_call 22; refine (kf _).mono ?_; rintro x w1 ⟨rfl, hb1⟩; have hb09 : Below W0.heap.size W0 (w1.alloc (.cells #[.int .u64 0, .int .u64 0, .slice none 0 0] 25)) := hb1.alloc hb1.size _; have br := HBN.out.below hb09 HBN.out.lt; have r0' : (w1.alloc (.cells #[.int .u64 0, .int .u64 0, .slice none 0 0] 25)).cell? ⟨r0, 0, none⟩ = some (.int .u64 0) := br.cell 0; have r1' : (w1.alloc (.cells #[.int .u64 0, .int .u64 0, .slice none 0 0] 25)).cell? ⟨r0, 1, none⟩ = some (.int .u64 0) := br.cell 1; have r2' : (w1.alloc (.cells #[.int .u64 0, .int .u64 0, .slice none 0 0] 25)).cell? ⟨r0, 2, none⟩ = some (.slice none 0 0) := br.cell 2; have f0 := br.frozen 0; have f1 := br.frozen 1; have f2 := br.frozen 2; have HBR := Lib.hid br; have HB09 := Lib.hid hb09; clear hb1 br hb09)
  have b4 := ((HBR.out.set_ 0 (.int .u64 0)).set_ 1 (.int .u64 0)).set_ 2 (.slice none 0 0)
  have hE0 := HB0.out.trans (HB09.out.mono HB0.out.size)
  have hr0 := HR0.out
  have hE : Below w.heap.size w (((((w1.alloc (.cells #[.int .u64 0, .int .u64 0, .slice none 0 0] 25)).setCell ⟨r0, 0, none⟩ (.int .u64 0)).setCell ⟨r0, 1, none⟩ (.int .u64 0)).setCell ⟨r0, 2, none⟩ (.slice none 0 0))) := ((hE0.setCell (p := ⟨r0, 0, none⟩) (by show w.heap.size ≤ r0; omega) _).setCell (p := ⟨r0, 1, none⟩) (by show w.heap.size ≤ r0; omega) _).setCell (p := ⟨r0, 2, none⟩) (by show w.heap.size ≤ r0; omega) _
  have d0 : (((((w1.alloc (.cells #[.int .u64 0, .int .u64 0, .slice none 0 0] 25)).setCell ⟨r0, 0, none⟩ (.int .u64 0)).setCell ⟨r0, 1, none⟩ (.int .u64 0)).setCell ⟨r0, 2, none⟩ (.slice none 0 0))).cell? ⟨r0, 0, none⟩ = some (.int .u64 0) := b4.cell 0
  have d1 : (((((w1.alloc (.cells #[.int .u64 0, .int .u64 0, .slice none 0 0] 25)).setCell ⟨r0, 0, none⟩ (.int .u64 0)).setCell ⟨r0, 1, none⟩ (.int .u64 0)).setCell ⟨r0, 2, none⟩ (.slice none 0 0))).cell? ⟨r0, 1, none⟩ = some (.int .u64 0) := b4.cell 1
  have d2 : (((((w1.alloc (.cells #[.int .u64 0, .int .u64 0, .slice none 0 0] 25)).setCell ⟨r0, 0, none⟩ (.int .u64 0)).setCell ⟨r0, 1, none⟩ (.int .u64 0)).setCell ⟨r0, 2, none⟩ (.slice none 0 0))).cell? ⟨r0, 2, none⟩ = some (.slice none 0 0) := b4.cell 2
  exact bodyPost_ret (v := .tuple #[.agg #[.int .u64 0, .int .u64 0, .slice none 0 0], .int .i64 0, .int .i64 6]) (by simp [results, Try.results10, go_sem, d0, d1, d2]) rfl ⟨rfl, hE⟩

set_option maxHeartbeats 8000000 in
/-- Sector p is none, those ahead of it are. -/
theorem get_stop (b : ByteArray) (hb : b.size ≤ 100000) (e l : Int) (BD : ByteArray) (n m p : Nat) (hn1 : 1 ≤ n) (hn2 : n ≤ 60) (hm : secsN n = m) (hfe : e ≠ 0) (hfl : l ≠ 0) (he : 0 ≤ e ∧ e ≤ 18446744073709551615) (hl : 0 ≤ l ∧ l ≤ 18446744073709551615)
    (h64 : 64 * m ≤ b.size) (hp1 : 1 ≤ p) (hpm : p < m) (hsec : ∀ k, k < p → b.extract (64 * k) (64 * (k + 1)) = secT e l n BD k) (hbad : fitsR (b.extract (64 * p) (64 * (p + 1))) = false) (w : World) :
    Calls Try.prog 10 #[.string b] w fun x w' => x = .returned (.tuple #[.agg #[.int .u64 0, .int .u64 0, .slice none 0 0], .int .i64 0, .int .i64 6]) ∧ Below w.heap.size w w' := by
  obtain ⟨m1, m2, m3, m4⟩ := secs_facts hn1 hn2
  rw [hm] at m1 m2 m3 m4
  have h0 := hsec 0 (by omega)
  rw [show 64 * 0 = 0 from rfl, show 64 * (0 + 1) = 64 from rfl] at h0
  obtain ⟨R, hR⟩ := frontK_first e l n BD
  have kf := fun W => first_ok b (by omega) (by omega) (by rw [h0]; exact secT_fits 0) e l n (by omega) (by omega) ⟨hn1, hn2⟩ R (by rw [h0, secT_front]; exact hR) W
  have ks := fun W => sectors_any (n : Int) W
  rw [secsI_nat hn1 hn2, hm] at ks
  have kr := fun k (hk : k < p) W => by
    have := read_ok (b.extract (64 * k) (64 * (k + 1))) 60 (by rw [hsec k hk, secT_size]) (by rw [hsec k hk, secT_size]; omega) (by rw [hsec k hk]; exact secT_fits k) W
    rwa [hsec k hk, secT_front] at this
  have hbsz : (b.extract (64 * p) (64 * (p + 1))).size = 64 := by rw [ByteArray.size_extract]; omega
  have krb := fun W => read_bad (b.extract (64 * p) (64 * (p + 1))) 60 (by omega) (by omega) hbad W
  have kl := fun (k : Nat) (hk : k < p) W => label_any e l (k : Int) (n : Int) none 0 0 he hl ⟨by omega, by omega⟩ ⟨by omega, by omega⟩ W
  have hsl : ∀ k, k < p → ∀ w : World, (Instr.slice 9 (.string b) (some (.int .i64 ((k : Int) * 64))) (some (.int .i64 (((k : Int) + 1) * 64))) none).run Try.prog w = .ok (.string (secT e l n BD k)) w := fun k hk w => by
    rw [run_slice_string (P := Try.prog) w _ b .i64 .i64 ((k : Int) * 64) (((k : Int) + 1) * 64) Try.underlying9 (by omega) (by omega) (by omega)]
    rw [show ((k : Int) * 64).toNat = 64 * k by omega, show (((k : Int) + 1) * 64).toNat = 64 * (k + 1) by omega, hsec k hk]
  have hslp : ∀ w : World, (Instr.slice 9 (.string b) (some (.int .i64 ((p : Int) * 64))) (some (.int .i64 (((p : Int) + 1) * 64))) none).run Try.prog w = .ok (.string (b.extract (64 * p) (64 * (p + 1)))) w := fun w => by
    rw [run_slice_string (P := Try.prog) w _ b .i64 .i64 ((p : Int) * 64) (((p : Int) + 1) * 64) Try.underlying9 (by omega) (by omega) (by omega)]
    rw [show ((p : Int) * 64).toNat = 64 * p by omega, show (((p : Int) + 1) * 64).toNat = 64 * (p + 1) by omega]
  have hcnt : ∀ k, k < m → (frontK e l n BD k).extract 18 (frontK e l n BD k).size = contK e l n BD k := fun k _ => by rw [frontK_size]; rfl
  have hasz : ∀ k, (allK e l n BD k).size = 42 * k := fun k => allK_size k
  obtain ⟨SP, hSP⟩ : ∃ S, b.extract (64 * p) (64 * (p + 1)) = S := ⟨_, rfl⟩
  rw [hSP] at krb hslp
  have KR := Lib.hid kr
  have KL := Lib.hid kl
  have KRB := Lib.hid krb
  have HSL := Lib.hid hsl
  have HSP := Lib.hid hslp
  have HCN := Lib.hid hcnt
  have HAZ := Lib.hid hasz
  have hi1 : (m : Int) * 64 ≤ (b.size : Int) := by omega
  have hi3 : ¬ (b.size : Int) < (m : Int) * 64 := by omega
  have wm : IntKind.i64.wrap ((m : Int) * 64) = (m : Int) * 64 := IntWalk.i64_in _ (by omega)
  clear hm hfe hfl hsec h0 hR kr kl krb hsl hslp hcnt hasz m3 m4 hSP hbsz hbad
  have hbn := Blk.new w 25 #[.int .u64 0, .int .u64 0, .slice none 0 0]
  have hb0 := (Below.refl _ w).alloc (Nat.le_refl _) (.cells #[.int .u64 0, .int .u64 0, .slice none 0 0] 25)
  obtain ⟨W0, hW0⟩ : ∃ W0, w.alloc (.cells #[.int .u64 0, .int .u64 0, .slice none 0 0] 25) = W0 := ⟨_, rfl⟩
  rw [hW0] at hbn hb0
  obtain ⟨r0, hr0⟩ : ∃ r, w.heap.size = r := ⟨_, rfl⟩
  rw [hr0] at hbn
  have HW0 := Lib.hid hW0
  have HR0 := Lib.hid hr0
  have HBN := Lib.hid hbn
  have HB0 := Lib.hid hb0
  clear hbn hb0 hW0 hr0
  go_enter Try.func10, Try.ntmps10
  go_upto_region 1 with fail
  rw [HW0.out, HR0.out]
  go_upto_region 4 with (go_at_call 22; refine (kf _).mono ?_; rintro x w1 ⟨rfl, hb1⟩; have HB1 := Lib.hid hb1; clear hb1)
  have hbx := Blk.new w1 25 #[.int .u64 e, .int .u64 l, .slice none 0 0]
  have hbW : Below W0.heap.size W0 (w1.alloc (.cells #[.int .u64 e, .int .u64 l, .slice none 0 0] 25)) := HB1.out.alloc HB1.out.size _
  have hqq : W0.heap.size ≤ w1.heap.size := HB1.out.size
  obtain ⟨W2, hW2⟩ : ∃ W2, w1.alloc (.cells #[.int .u64 e, .int .u64 l, .slice none 0 0] 25) = W2 := ⟨_, rfl⟩
  rw [hW2] at hbx hbW ⊢
  obtain ⟨q, hq⟩ : ∃ q, w1.heap.size = q := ⟨_, rfl⟩
  rw [hq] at hbx hqq ⊢
  have HBX := Lib.hid hbx
  have HBW := Lib.hid hbW
  have HQQ := Lib.hid hqq
  have Q0 : Hid (W2.cell? ⟨q, 0, none⟩ = some (.int .u64 e)) := Lib.hid (hbx.cell 0)
  have Q1 : Hid (W2.cell? ⟨q, 1, none⟩ = some (.int .u64 l)) := Lib.hid (hbx.cell 1)
  have Q2 : Hid (W2.cell? ⟨q, 2, none⟩ = some (.slice none 0 0)) := Lib.hid (hbx.cell 2)
  have HQL : Hid (q < W2.heap.size) := Lib.hid hbx.lt
  clear hbx hbW hqq hW2 hq kf HB1
  go_wp2_with (go_at_call 11; refine (ks _).mono ?_; rintro x w4 ⟨rfl, rfl⟩)
  go_loopw [9, 10, 11, 12, 34, 48, 53] (fun s _ _ _ i _ _ wr => ∃ k : Nat, i = .int .i64 (k : Int) ∧ s = .string (allK e l n BD k) ∧ k ≤ p ∧ Hid (Below w4.heap.size w4 wr)) (fun _ _ _ _ i _ _ _ => m - (intOf i).toNat)
  case atStart => exact ⟨0, rfl, rfl, by omega, Lib.hid (belowSame _)⟩
  case round =>
    obtain ⟨k, rfl, rfl, hk, HB⟩ := hrel
    by_cases hlt : k < m
    · skip
      rcases Nat.lt_or_eq_of_le hk with hkp | hkp
      · have krk := KR.out k hkp
        have klk := KL.out k hkp
        have hsl := HSL.out k hkp
        have hcn := HCN.out k hlt
        have hfz := frontK_size (e := e) (l := l) (n := n) (B := BD) k
        have hlab := frontK_lab (e := e) (l := l) (n := n) (B := BD) k
        have haz := HAZ.out k
        have hcz : (contK e l n BD k).size = 42 := by unfold contK; rw [ByteArray.size_extract, frontK_size]; rfl
        have hak : allK e l n BD (k + 1) = allK e l n BD k ++ contK e l n BD k := rfl
        obtain ⟨SC, hSC⟩ : ∃ S, secT e l n BD k = S := ⟨_, rfl⟩
        obtain ⟨F, hF⟩ : ∃ F, frontK e l n BD k = F := ⟨_, rfl⟩
        obtain ⟨C, hC⟩ : ∃ C, contK e l n BD k = C := ⟨_, rfl⟩
        obtain ⟨AL, hAL⟩ : ∃ AL, allK e l n BD k = AL := ⟨_, rfl⟩
        obtain ⟨LB, hLB⟩ : ∃ LB, labelT e l (k : Int) (n : Int) = LB := ⟨_, rfl⟩
        rw [hSC] at krk hsl
        rw [hF] at krk hcn hfz hlab
        rw [hC] at hcn hcz hak
        rw [hAL] at haz hak ⊢
        rw [hLB] at klk hlab
        have hz : ¬ 9223372036854775807 < AL.size + C.size := by omega
        have hf18 : (18 : Int) ≤ (F.size : Int) := by omega
        have e1 : IntKind.i64.wrap ((k : Int) + 1) = (k : Int) + 1 := IntWalk.i64_in _ (by omega)
        have e2 : IntKind.i64.wrap ((k : Int) * 64) = (k : Int) * 64 := IntWalk.i64_in _ (by omega)
        have e3 : IntKind.i64.wrap (((k : Int) + 1) * 64) = ((k : Int) + 1) * 64 := IntWalk.i64_in _ (by omega)
        have HAK := Lib.hid hak
        have KLK := Lib.hid klk
        clear hak klk hSC hF hC hAL hLB hfz hcz haz
        go_upto_region 14 with (go_at_call 23; refine (krk _).mono ?_; rintro x w5 ⟨rfl, hb5⟩; have HB5 := Lib.hid (HB.out.trans (hb5.mono HB.out.size)); clear hb5)
        have s0 := (HB5.out.cell (p := ⟨q, 0, none⟩) HQL.out).trans Q0.out
        have s1 := (HB5.out.cell (p := ⟨q, 1, none⟩) HQL.out).trans Q1.out
        have s2 := (HB5.out.cell (p := ⟨q, 2, none⟩) HQL.out).trans Q2.out
        go_region_held3 (fun W => W.cell? ⟨q, 0, none⟩ = some (.int .u64 e) ∧ W.cell? ⟨q, 1, none⟩ = some (.int .u64 l) ∧ W.cell? ⟨q, 2, none⟩ = some (.slice none 0 0)) (go_keep) (first
          | (go_at_call 21; refine (KLK.out _).mono ?_; rintro x w6 ⟨rfl, hb6⟩; have hb56 := HB5.out.trans ((show Below w5.heap.size w5 w6 from belowUndrew hb6).mono HB5.out.size); have z0 := (hb56.cell (p := ⟨q, 0, none⟩) HQL.out).trans Q0.out; have z1 := (hb56.cell (p := ⟨q, 1, none⟩) HQL.out).trans Q1.out; have z2 := (hb56.cell (p := ⟨q, 2, none⟩) HQL.out).trans Q2.out; have HB6 := Lib.hid hb56; clear hb6 hb56))
        all_goals
          go_wp2_with fail
          go_roundw
          case rel => exact ⟨k + 1, by go_num, by rw [HAK.out], by omega, HB6⟩
          case measure => simp [intOf]; omega
      · have krp := KRB.out
        have hslp := HSP.out
        obtain ⟨AL, hAL⟩ : ∃ AL, allK e l n BD k = AL := ⟨_, rfl⟩
        rw [hAL]
        have e2 : IntKind.i64.wrap ((p : Int) * 64) = (p : Int) * 64 := IntWalk.i64_in _ (by omega)
        have e3 : IntKind.i64.wrap (((p : Int) + 1) * 64) = ((p : Int) + 1) * 64 := IntWalk.i64_in _ (by omega)
        have e1 : IntKind.i64.wrap ((p : Int) + 1) = (p : Int) + 1 := IntWalk.i64_in _ (by omega)
        have hck : (k : Int) = (p : Int) := by omega
        rw [hck]
        have hpm2 : (p : Int) < (m : Int) := by omega
        clear KR KL HSL HCN HAZ hAL hck
        go_wp2_with (go_at_call 23; refine (krp _).mono ?_; rintro x w9 ⟨rfl, hb9⟩; have hb09 := HBW.out.trans ((HB.out.trans (hb9.mono HB.out.size)).mono HBW.out.size); have br := HBN.out.below hb09 HBN.out.lt; have r0' : w9.cell? ⟨r0, 0, none⟩ = some (.int .u64 0) := br.cell 0; have r1' : w9.cell? ⟨r0, 1, none⟩ = some (.int .u64 0) := br.cell 1; have r2' : w9.cell? ⟨r0, 2, none⟩ = some (.slice none 0 0) := br.cell 2; have f0 := br.frozen 0; have f1 := br.frozen 1; have f2 := br.frozen 2; have HBR := Lib.hid br; have HB09 := Lib.hid hb09; clear hb9 hb09 br)
        have b4 := ((HBR.out.set_ 0 (.int .u64 0)).set_ 1 (.int .u64 0)).set_ 2 (.slice none 0 0)
        have hE0 := HB0.out.trans (HB09.out.mono HB0.out.size)
        have hr0 := HR0.out
        have hE : Below w.heap.size w ((((w9.setCell ⟨r0, 0, none⟩ (.int .u64 0)).setCell ⟨r0, 1, none⟩ (.int .u64 0)).setCell ⟨r0, 2, none⟩ (.slice none 0 0))) := ((hE0.setCell (p := ⟨r0, 0, none⟩) (by show w.heap.size ≤ r0; omega) _).setCell (p := ⟨r0, 1, none⟩) (by show w.heap.size ≤ r0; omega) _).setCell (p := ⟨r0, 2, none⟩) (by show w.heap.size ≤ r0; omega) _
        have d0 : ((((w9.setCell ⟨r0, 0, none⟩ (.int .u64 0)).setCell ⟨r0, 1, none⟩ (.int .u64 0)).setCell ⟨r0, 2, none⟩ (.slice none 0 0))).cell? ⟨r0, 0, none⟩ = some (.int .u64 0) := b4.cell 0
        have d1 : ((((w9.setCell ⟨r0, 0, none⟩ (.int .u64 0)).setCell ⟨r0, 1, none⟩ (.int .u64 0)).setCell ⟨r0, 2, none⟩ (.slice none 0 0))).cell? ⟨r0, 1, none⟩ = some (.int .u64 0) := b4.cell 1
        have d2 : ((((w9.setCell ⟨r0, 0, none⟩ (.int .u64 0)).setCell ⟨r0, 1, none⟩ (.int .u64 0)).setCell ⟨r0, 2, none⟩ (.slice none 0 0))).cell? ⟨r0, 2, none⟩ = some (.slice none 0 0) := b4.cell 2
        exact bodyPost_ret (v := .tuple #[.agg #[.int .u64 0, .int .u64 0, .slice none 0 0], .int .i64 0, .int .i64 6]) (by simp [results, Try.results10, go_sem, d0, d1, d2]) rfl ⟨rfl, hE⟩
    · omega
set_option maxHeartbeats 4000000 in
/-- Too few sectors. -/
theorem get_short (b : ByteArray) (hb : b.size ≤ 100000) (e l : Int) (BD : ByteArray) (n m : Nat) (hn1 : 1 ≤ n) (hn2 : n ≤ 60) (hm : secsN n = m) (hfe : e ≠ 0) (hfl : l ≠ 0) (he : 0 ≤ e ∧ e ≤ 18446744073709551615) (hl : 0 ≤ l ∧ l ≤ 18446744073709551615)
    (h64 : 64 ≤ b.size) (hlt : b.size < 64 * m) (h0 : b.extract 0 64 = secT e l n BD 0) (w : World) :
    Calls Try.prog 10 #[.string b] w fun x w' => x = .returned (.tuple #[.agg #[.int .u64 0, .int .u64 0, .slice none 0 0], .int .i64 0, .int .i64 5]) ∧ Below w.heap.size w w' := by
  obtain ⟨m1, m2, m3, m4⟩ := secs_facts hn1 hn2
  rw [hm] at m1 m2 m3 m4
  obtain ⟨R, hR⟩ := frontK_first e l n BD
  have kf := fun W => first_ok b (by omega) (by omega) (by rw [h0]; exact secT_fits 0) e l n (by omega) (by omega) ⟨hn1, hn2⟩ R (by rw [h0, secT_front]; exact hR) W
  have ks := fun W => sectors_any (n : Int) W
  rw [secsI_nat hn1 hn2, hm] at ks
  have hi3 : (b.size : Int) < (m : Int) * 64 := by omega
  have wm : IntKind.i64.wrap ((m : Int) * 64) = (m : Int) * 64 := IntWalk.i64_in _ (by omega)
  clear hm hfe hfl h0 hR m3 m4
  have hbn := Blk.new w 25 #[.int .u64 0, .int .u64 0, .slice none 0 0]
  have hb0 := (Below.refl _ w).alloc (Nat.le_refl _) (.cells #[.int .u64 0, .int .u64 0, .slice none 0 0] 25)
  obtain ⟨W0, hW0⟩ : ∃ W0, w.alloc (.cells #[.int .u64 0, .int .u64 0, .slice none 0 0] 25) = W0 := ⟨_, rfl⟩
  rw [hW0] at hbn hb0
  obtain ⟨r0, hr0⟩ : ∃ r, w.heap.size = r := ⟨_, rfl⟩
  rw [hr0] at hbn
  have HW0 := Lib.hid hW0
  have HR0 := Lib.hid hr0
  have HBN := Lib.hid hbn
  have HB0 := Lib.hid hb0
  clear hbn hb0 hW0 hr0
  go_enter Try.func10, Try.ntmps10
  go_upto_region 1 with fail
  rw [HW0.out, HR0.out]
  go_wp2_with (first
    | (go_at_call 22; refine (kf _).mono ?_; rintro x w1 ⟨rfl, hb1⟩; have hb09 : Below W0.heap.size W0 (w1.alloc (.cells #[.int .u64 e, .int .u64 l, .slice none 0 0] 25)) := hb1.alloc hb1.size _; have br := HBN.out.below hb09 HBN.out.lt; have r0' : (w1.alloc (.cells #[.int .u64 e, .int .u64 l, .slice none 0 0] 25)).cell? ⟨r0, 0, none⟩ = some (.int .u64 0) := br.cell 0; have r1' : (w1.alloc (.cells #[.int .u64 e, .int .u64 l, .slice none 0 0] 25)).cell? ⟨r0, 1, none⟩ = some (.int .u64 0) := br.cell 1; have r2' : (w1.alloc (.cells #[.int .u64 e, .int .u64 l, .slice none 0 0] 25)).cell? ⟨r0, 2, none⟩ = some (.slice none 0 0) := br.cell 2; have f0 := br.frozen 0; have f1 := br.frozen 1; have f2 := br.frozen 2; have HBR := Lib.hid br; have HB09 := Lib.hid hb09; clear hb1 br hb09)
    | (go_at_call 11; refine (ks _).mono ?_; rintro x w4 ⟨rfl, rfl⟩))
  have b4 := ((HBR.out.set_ 0 (.int .u64 0)).set_ 1 (.int .u64 0)).set_ 2 (.slice none 0 0)
  have hE0 := HB0.out.trans (HB09.out.mono HB0.out.size)
  have hr0 := HR0.out
  have hE : Below w.heap.size w (((((w1.alloc (.cells #[.int .u64 e, .int .u64 l, .slice none 0 0] 25)).setCell ⟨r0, 0, none⟩ (.int .u64 0)).setCell ⟨r0, 1, none⟩ (.int .u64 0)).setCell ⟨r0, 2, none⟩ (.slice none 0 0))) := ((hE0.setCell (p := ⟨r0, 0, none⟩) (by show w.heap.size ≤ r0; omega) _).setCell (p := ⟨r0, 1, none⟩) (by show w.heap.size ≤ r0; omega) _).setCell (p := ⟨r0, 2, none⟩) (by show w.heap.size ≤ r0; omega) _
  have d0 : (((((w1.alloc (.cells #[.int .u64 e, .int .u64 l, .slice none 0 0] 25)).setCell ⟨r0, 0, none⟩ (.int .u64 0)).setCell ⟨r0, 1, none⟩ (.int .u64 0)).setCell ⟨r0, 2, none⟩ (.slice none 0 0))).cell? ⟨r0, 0, none⟩ = some (.int .u64 0) := b4.cell 0
  have d1 : (((((w1.alloc (.cells #[.int .u64 e, .int .u64 l, .slice none 0 0] 25)).setCell ⟨r0, 0, none⟩ (.int .u64 0)).setCell ⟨r0, 1, none⟩ (.int .u64 0)).setCell ⟨r0, 2, none⟩ (.slice none 0 0))).cell? ⟨r0, 1, none⟩ = some (.int .u64 0) := b4.cell 1
  have d2 : (((((w1.alloc (.cells #[.int .u64 e, .int .u64 l, .slice none 0 0] 25)).setCell ⟨r0, 0, none⟩ (.int .u64 0)).setCell ⟨r0, 1, none⟩ (.int .u64 0)).setCell ⟨r0, 2, none⟩ (.slice none 0 0))).cell? ⟨r0, 2, none⟩ = some (.slice none 0 0) := b4.cell 2
  exact bodyPost_ret (v := .tuple #[.agg #[.int .u64 0, .int .u64 0, .slice none 0 0], .int .i64 0, .int .i64 5]) (by simp [results, Try.results10, go_sem, d0, d1, d2]) rfl ⟨rfl, hE⟩
end Go.Proofs.Ytmfbggdoejcpiaa.RC
