/- rec: Get of a record that was put, whatever stands behind it. No condition. -/
import Derived.Test.YtmfbggdoejcpiaaRec7
namespace Go.Proofs.Ytmfbggdoejcpiaa.RC
open Go.RowKit Go.Proofs.Ytmfbggdoejcpiaa.WI Go.Proofs.Ytmfbggdoejcpiaa.SM
set_option linter.unusedVariables false
set_option linter.unusedSimpArgs false

theorem flat_at (xs : List Im) (i : Nat) (x : Im) (hx : xs[i]? = some x) (j : Nat) (hj : j < 3) : (xs.flatMap ival)[i * 3 + j]? = (ival x)[j]? := by
  induction xs generalizing i with
  | nil => simp at hx
  | cons y ys ih =>
    have hl : (ival y).length = 3 := rfl
    rw [List.flatMap_cons]
    cases i with
    | zero =>
      simp at hx
      subst hx
      rw [List.getElem?_append_left (by rw [hl]; omega), Nat.zero_mul, Nat.zero_add]
    | succ i =>
      rw [List.getElem?_append_right (by rw [hl]; omega), hl, show (i + 1) * 3 + j - 3 = i * 3 + j by omega]
      exact ih i (by simpa using hx)
theorem ims_own {w : World} {B : Nat} {A : Option Addr} {n c : Nat} {xs : List Im} (h : w.ownsRow B TIm 3 (.slice A n c) n (xs.flatMap ival)) (hn : xs.length = n) (hok : ∀ x ∈ xs, ImOk x) : Ims w A n c xs := by
  rcases h.2 with ⟨h0, h1⟩ | ⟨g', cap', cur, h0, hB, hh, h1, h2, _⟩
  · injection h0 with e1 e2 e3
    exact ⟨by omega, by rw [e3]; unfold maxLen; omega, hn, hok, fun h => by omega⟩
  · have h0' := h0
    injection h0 with e1 e2 e3
    subst e1 e3
    refine ⟨h1, h2, hn, hok, fun _ => ⟨g', 0, rfl, (Array.getElem?_eq_some_iff.1 hh).1, fun i x hx j u hu => ?_⟩⟩
    have hj : j < 3 := by
      rcases Nat.lt_or_ge j 3 with h | h
      · exact h
      · rw [List.getElem?_eq_none (by show 3 ≤ j; exact h)] at hu; cases hu
    have := h.cells (g := g') rfl (i * 3 + j) u (by rw [flat_at xs i x hx j hj]; exact hu)
    rw [Go.WideShapes.add_plain] at this
    exact this
theorem secs_facts {n : Nat} (h1 : 1 ≤ n) (h2 : n ≤ 60) : 3 ≤ secsN n ∧ secsN n ≤ 155 ∧ 42 * secsN n < 108 * n + 42 ∧ 108 * n ≤ 42 * secsN n := by unfold secsN; omega
def GetOut (e l : Int) (n m : Nat) (xs : List Im) (w : World) (x : Ending) (w' : World) : Prop :=
  ∃ A c, x = .returned (.tuple #[.agg #[.int .u64 e, .int .u64 l, .slice A n c], .int .i64 (m : Int), .int .i64 0]) ∧ Ims w' A n c xs ∧ Below w.heap.size w w'
set_option maxHeartbeats 8000000 in
theorem get_ok (b : ByteArray) (hb : b.size ≤ 100000) (e l : Int) (xs : List Im) (n m : Nat) (hn : xs.length = n) (hm : secsN n = m) (hf : Fits e l xs) (hok : ∀ x ∈ xs, ImOk x) (he : 0 ≤ e ∧ e ≤ 18446744073709551615) (hl : 0 ≤ l ∧ l ≤ 18446744073709551615)
    (h64 : 64 * m ≤ b.size) (hP : b.extract 0 (64 * m) = putT e l xs) (w : World) :
    Calls Try.prog 10 #[.string b] w (GetOut e l n m xs w) := by
  have hn1 := hf.n1
  have hn2 := hf.n2
  rw [hn] at hn1 hn2
  have hfe := hf.e
  have hfl := hf.l
  have hgood := hf.good hok
  obtain ⟨m1, m2, m3, m4⟩ := secs_facts hn1 hn2
  rw [hm] at m1 m2 m3 m4
  have hput : putT e l xs = putK e l n (bodyK xs n) m := by unfold putT; rw [hn, hm]
  have hpo := fun A c W (h : Ims W A n c xs) => put_ok e l A n c xs W h hf he hl
  rw [hput] at hP hpo
  have hbs := bodyK_size hgood (k := n) (by omega)
  have hall := fun i (hi : i < n) => all_at (e := e) (l := l) hgood m (by rw [hn]; omega) (by rw [hn]; omega) i (by rw [hn]; exact hi)
  rw [hn] at hall
  obtain ⟨BD, hBD⟩ : ∃ B, bodyK xs n = B := ⟨_, rfl⟩
  rw [hBD] at hP hall hbs hpo
  have hsec := fun k (hk : k < m) => sector_at b e l n BD m k hk hP
  have h0 := hsec 0 (by omega)
  rw [show 64 * 0 = 0 from rfl, show 64 * (0 + 1) = 64 from rfl] at h0
  obtain ⟨R, hR⟩ := frontK_first e l n BD
  have kf := fun W => first_ok b (by omega) (by omega) (by rw [h0]; exact secT_fits 0) e l n (by omega) (by omega) ⟨hn1, hn2⟩ R (by rw [h0, secT_front]; exact hR) W
  have ks := fun W => sectors_any (n : Int) W
  rw [secsI_nat hn1 hn2, hm] at ks
  have kr := fun k (hk : k < m) W => by
    have := read_ok (b.extract (64 * k) (64 * (k + 1))) 60 (by rw [hsec k hk, secT_size]) (by rw [hsec k hk, secT_size]; omega) (by rw [hsec k hk]; exact secT_fits k) W
    rwa [hsec k hk, secT_front] at this
  have kl := fun (k : Nat) (hk : k < m) W => label_any e l (k : Int) (n : Int) none 0 0 he hl ⟨by omega, by omega⟩ ⟨by omega, by omega⟩ W
  have ki := fun W => images_any (allK e l n BD m) n xs hn hn2 (by rw [allK_size]; omega) (by rw [allK_size]; omega) hall hgood W
  have hsl : ∀ k, k < m → ∀ w : World, (Instr.slice 9 (.string b) (some (.int .i64 ((k : Int) * 64))) (some (.int .i64 (((k : Int) + 1) * 64))) none).run Try.prog w = .ok (.string (secT e l n BD k)) w := fun k hk w => by
    rw [run_slice_string (P := Try.prog) w _ b .i64 .i64 ((k : Int) * 64) (((k : Int) + 1) * 64) Try.underlying9 (by omega) (by omega) (by omega)]
    rw [show ((k : Int) * 64).toNat = 64 * k by omega, show (((k : Int) + 1) * 64).toNat = 64 * (k + 1) by omega, hsec k hk]
  have hcnt : ∀ k, k < m → (frontK e l n BD k).extract 18 (frontK e l n BD k).size = contK e l n BD k := fun k _ => by rw [frontK_size]; rfl
  have hasz : ∀ k, (allK e l n BD k).size = 42 * k := fun k => allK_size k
  have KR := Lib.hid kr
  have KL := Lib.hid kl
  have KI := Lib.hid ki
  have HSL := Lib.hid hsl
  have HCN := Lib.hid hcnt
  have HAZ := Lib.hid hasz
  have HPO := Lib.hid hpo
  have HN := Lib.hid hn
  have HOK := Lib.hid hok
  obtain ⟨PT, hPT⟩ : ∃ PT, putK e l n BD m = PT := ⟨_, rfl⟩
  have hi0 : (0 : Int) ≤ (m : Int) * 64 := by omega
  have hi1 : (m : Int) * 64 ≤ (b.size : Int) := by omega
  have hi2 : ((m : Int) * 64).toNat = 64 * m := by omega
  have hi3 : ¬ (b.size : Int) < (m : Int) * 64 := by omega
  have wm : IntKind.i64.wrap ((m : Int) * 64) = (m : Int) * 64 := IntWalk.i64_in _ (by omega)
  rw [hPT] at hP
  have HP := Lib.hid hP
  have HPT := Lib.hid hPT
  clear hn hm hf hok hfe hfl hgood hput hpo hbs hall hBD hsec h0 hR kr kl ki hsl hcnt hasz hPT hP m3 m4
  have hbn := Blk.new w 25 #[.int .u64 0, .int .u64 0, .slice none 0 0]
  have hb0 := (Below.refl _ w).alloc (Nat.le_refl _) (.cells #[.int .u64 0, .int .u64 0, .slice none 0 0] 25)
  obtain ⟨W0, hW0⟩ : ∃ W0, w.alloc (.cells #[.int .u64 0, .int .u64 0, .slice none 0 0] 25) = W0 := ⟨_, rfl⟩
  rw [hW0] at hbn hb0
  obtain ⟨r0, hr0⟩ : ∃ r, w.heap.size = r := ⟨_, rfl⟩
  rw [hr0] at hbn
  have HW0 := Lib.hid hW0
  have HR0 := Lib.hid hr0
  have HBN := Lib.hid hbn
  have HB0 := Lib.hid hb0
  clear hbn hb0 hW0 hr0
  go_enter Try.func10, Try.ntmps10
  go_upto_region 1 with fail
  rw [HW0.out, HR0.out]
  go_upto_region 4 with (go_at_call 22; refine (kf _).mono ?_; rintro x w1 ⟨rfl, hb1⟩; have HB1 := Lib.hid hb1; clear hb1)
  have hbx := Blk.new w1 25 #[.int .u64 e, .int .u64 l, .slice none 0 0]
  have hbW : Below W0.heap.size W0 (w1.alloc (.cells #[.int .u64 e, .int .u64 l, .slice none 0 0] 25)) := HB1.out.alloc HB1.out.size _
  have hqq : W0.heap.size ≤ w1.heap.size := HB1.out.size
  obtain ⟨W2, hW2⟩ : ∃ W2, w1.alloc (.cells #[.int .u64 e, .int .u64 l, .slice none 0 0] 25) = W2 := ⟨_, rfl⟩
  rw [hW2] at hbx hbW ⊢
  obtain ⟨q, hq⟩ : ∃ q, w1.heap.size = q := ⟨_, rfl⟩
  rw [hq] at hbx hqq ⊢
  have HBX := Lib.hid hbx
  have HBW := Lib.hid hbW
  have HQQ := Lib.hid hqq
  have Q0 : Hid (W2.cell? ⟨q, 0, none⟩ = some (.int .u64 e)) := Lib.hid (hbx.cell 0)
  have Q1 : Hid (W2.cell? ⟨q, 1, none⟩ = some (.int .u64 l)) := Lib.hid (hbx.cell 1)
  have Q2 : Hid (W2.cell? ⟨q, 2, none⟩ = some (.slice none 0 0)) := Lib.hid (hbx.cell 2)
  have HQL : Hid (q < W2.heap.size) := Lib.hid hbx.lt
  clear hbx hbW hqq hW2 hq kf HB1
  go_wp2_with (go_at_call 11; refine (ks _).mono ?_; rintro x w4 ⟨rfl, rfl⟩)
  go_loopw [9, 10, 11, 12, 34, 48, 53] (fun s _ _ _ i _ _ wr => ∃ k : Nat, i = .int .i64 (k : Int) ∧ s = .string (allK e l n BD k) ∧ k ≤ m ∧ Hid (Below w4.heap.size w4 wr)) (fun _ _ _ _ i _ _ _ => m - (intOf i).toNat)
  case atStart => exact ⟨0, rfl, rfl, by omega, Lib.hid (belowSame _)⟩
  case round =>
    obtain ⟨k, rfl, rfl, hk, HB⟩ := hrel
    by_cases hlt : k < m
    · have krk := KR.out k hlt
      have klk := KL.out k hlt
      have hsl := HSL.out k hlt
      have hcn := HCN.out k hlt
      have hfz := frontK_size (e := e) (l := l) (n := n) (B := BD) k
      have hlab := frontK_lab (e := e) (l := l) (n := n) (B := BD) k
      have haz := HAZ.out k
      have hcz : (contK e l n BD k).size = 42 := by unfold contK; rw [ByteArray.size_extract, frontK_size]; rfl
      have hak : allK e l n BD (k + 1) = allK e l n BD k ++ contK e l n BD k := rfl
      obtain ⟨SC, hSC⟩ : ∃ S, secT e l n BD k = S := ⟨_, rfl⟩
      obtain ⟨F, hF⟩ : ∃ F, frontK e l n BD k = F := ⟨_, rfl⟩
      obtain ⟨C, hC⟩ : ∃ C, contK e l n BD k = C := ⟨_, rfl⟩
      obtain ⟨AL, hAL⟩ : ∃ AL, allK e l n BD k = AL := ⟨_, rfl⟩
      obtain ⟨LB, hLB⟩ : ∃ LB, labelT e l (k : Int) (n : Int) = LB := ⟨_, rfl⟩
      rw [hSC] at krk hsl
      rw [hF] at krk hcn hfz hlab
      rw [hC] at hcn hcz hak
      rw [hAL] at haz hak ⊢
      rw [hLB] at klk hlab
      have hz : ¬ 9223372036854775807 < AL.size + C.size := by omega
      have hf18 : (18 : Int) ≤ (F.size : Int) := by omega
      have e1 : IntKind.i64.wrap ((k : Int) + 1) = (k : Int) + 1 := IntWalk.i64_in _ (by omega)
      have e2 : IntKind.i64.wrap ((k : Int) * 64) = (k : Int) * 64 := IntWalk.i64_in _ (by omega)
      have e3 : IntKind.i64.wrap (((k : Int) + 1) * 64) = ((k : Int) + 1) * 64 := IntWalk.i64_in _ (by omega)
      have HAK := Lib.hid hak
      have KLK := Lib.hid klk
      clear hak klk hSC hF hC hAL hLB hfz hcz haz
      go_upto_region 14 with (go_at_call 23; refine (krk _).mono ?_; rintro x w5 ⟨rfl, hb5⟩; have HB5 := Lib.hid (HB.out.trans (hb5.mono HB.out.size)); clear hb5)
      have s0 := (HB5.out.cell (p := ⟨q, 0, none⟩) HQL.out).trans Q0.out
      have s1 := (HB5.out.cell (p := ⟨q, 1, none⟩) HQL.out).trans Q1.out
      have s2 := (HB5.out.cell (p := ⟨q, 2, none⟩) HQL.out).trans Q2.out
      go_region_held3 (fun W => W.cell? ⟨q, 0, none⟩ = some (.int .u64 e) ∧ W.cell? ⟨q, 1, none⟩ = some (.int .u64 l) ∧ W.cell? ⟨q, 2, none⟩ = some (.slice none 0 0)) (go_keep) (first
        | (go_at_call 21; refine (KLK.out _).mono ?_; rintro x w6 ⟨rfl, hb6⟩; have hb56 := HB5.out.trans ((show Below w5.heap.size w5 w6 from belowUndrew hb6).mono HB5.out.size); have z0 := (hb56.cell (p := ⟨q, 0, none⟩) HQL.out).trans Q0.out; have z1 := (hb56.cell (p := ⟨q, 1, none⟩) HQL.out).trans Q1.out; have z2 := (hb56.cell (p := ⟨q, 2, none⟩) HQL.out).trans Q2.out; have HB6 := Lib.hid hb56; clear hb6 hb56))
      all_goals
        go_wp2_with fail
        go_roundw
        case rel => exact ⟨k + 1, by go_num, by rw [HAK.out], by omega, HB6⟩
        case measure => simp [intOf]; omega
    · have hkm : k = m := by omega
      have kim := KI.out
      obtain ⟨AL, hAL⟩ : ∃ AL, allK e l n BD m = AL := ⟨_, rfl⟩
      rw [show allK e l n BD k = AL by rw [hkm]; exact hAL]
      rw [hAL] at kim
      have hp := HP.out
      have hpo := HPO.out
      rw [HPT.out] at hpo
      have HPQ := Lib.hid hpo
      clear hpo hAL KR KL KI HSL HCN HAZ HPO HPT
      go_upto_region 19 with (go_at_call 24; refine (kim _).mono ?_; rintro x w7 ⟨A, c, rfl, ho7, hb7⟩; have hbq := HB.out.trans (hb7.mono HB.out.size); have hx7 := HBX.out.below hbq HBX.out.lt; have f2 := hx7.frozen 2; have s2 : w7.cell? ⟨q, 2, none⟩ = some (.slice none 0 0) := hx7.cell 2; have HX7 := Lib.hid hx7; have HB7 := Lib.hid hbq; have HSQ := Lib.hid HB.out.size; have HO7 := Lib.hid ho7; clear hb7 hbq hx7 ho7)
      obtain ⟨W8, hW8⟩ : ∃ W8, w7.setCell ⟨q, 2, none⟩ (.slice A n c) = W8 := ⟨_, rfl⟩
      rw [hW8]
      have hx8 : Blk W8 q 25 #[.int .u64 e, .int .u64 l, .slice A n c] := hW8 ▸ HX7.out.set_ 2 (.slice A n c)
      have hk8 : Keeps (only q) w7 W8 := hW8 ▸ keep1 w7 q 2 _
      have ho8 := own_keeps HO7.out hk8 (fun j hj e => by have h1 := (HO7.out.lt j hj).1; have h2 : j = q := e; have h3 := HQL.out; have h4 := HSQ.out; omega)
      have HO8 := Lib.hid ho8
      have him : Ims W8 A n c xs := ims_own ho8 HN.out HOK.out
      have y0 : W8.cell? ⟨q, 0, none⟩ = some (.int .u64 e) := hx8.cell 0
      have y1 : W8.cell? ⟨q, 1, none⟩ = some (.int .u64 l) := hx8.cell 1
      have y2 : W8.cell? ⟨q, 2, none⟩ = some (.slice A n c) := hx8.cell 2
      have kp := HPQ.out A c W8 him
      have hb8 : Below W0.heap.size W0 W8 := hk8.after (HBW.out.trans (HB7.out.mono HBW.out.size)) (fun j hj => by have h2 : j = q := hj; have := HQQ.out; omega) (by have h1 := HBW.out.size; have h2 := HB7.out.size; omega)
      have HX8 := Lib.hid hx8
      have HIM := Lib.hid him
      have HB8 := Lib.hid hb8
      clear hW8 hx8 hk8 him ho8 hb8 f2 s2
      go_wp2_with (go_at_call 9; refine kp.mono ?_; rintro x w9 ⟨rfl, hb9⟩; have hx9 := HX8.out.below hb9 HX8.out.lt; have z0 : w9.cell? ⟨q, 0, none⟩ = some (.int .u64 e) := hx9.cell 0; have z1 : w9.cell? ⟨q, 1, none⟩ = some (.int .u64 l) := hx9.cell 1; have z2 : w9.cell? ⟨q, 2, none⟩ = some (.slice A n c) := hx9.cell 2; have hb09 := HB8.out.trans (hb9.mono HB8.out.size); have br := HBN.out.below hb09 HBN.out.lt; have r0' : w9.cell? ⟨r0, 0, none⟩ = some (.int .u64 0) := br.cell 0; have r1' : w9.cell? ⟨r0, 1, none⟩ = some (.int .u64 0) := br.cell 1; have r2' : w9.cell? ⟨r0, 2, none⟩ = some (.slice none 0 0) := br.cell 2; have f0 := br.frozen 0; have f1 := br.frozen 1; have f2 := br.frozen 2; have HBR := Lib.hid br; have HB09 := Lib.hid hb09; have HO9 := Lib.hid (own_keeps HO8.out (Keeps.of_below hb9 (fun _ => False)) (fun _ _ h => h)); clear hb9 hx9 hb09 br kp y0 y1 y2)
      have b4 := ((HBR.out.set_ 0 (.int .u64 e)).set_ 1 (.int .u64 l)).set_ 2 (.slice A n c)
      have hE0 := HB0.out.trans (HB09.out.mono HB0.out.size)
      have hr0 := HR0.out
      have hE : Below w.heap.size w ((((w9.setCell ⟨r0, 0, none⟩ (.int .u64 e)).setCell ⟨r0, 1, none⟩ (.int .u64 l)).setCell ⟨r0, 2, none⟩ (.slice A n c))) := ((hE0.setCell (p := ⟨r0, 0, none⟩) (by show w.heap.size ≤ r0; omega) _).setCell (p := ⟨r0, 1, none⟩) (by show w.heap.size ≤ r0; omega) _).setCell (p := ⟨r0, 2, none⟩) (by show w.heap.size ≤ r0; omega) _
      have hI : Ims ((((w9.setCell ⟨r0, 0, none⟩ (.int .u64 e)).setCell ⟨r0, 1, none⟩ (.int .u64 l)).setCell ⟨r0, 2, none⟩ (.slice A n c))) A n c xs :=
        ims_own (own_keeps HO9.out (((keep1 w9 r0 0 (.int .u64 e)).cell_ 1 (.int .u64 l)).cell_ 2 (.slice A n c)) (fun j hj e => by
          have h1 := (HO9.out.lt j hj).1
          have h2 : j = r0 := e
          have h3 := HSQ.out
          have h4 := HQL.out
          have h5 := HQQ.out
          have h6 := HB0.out.size
          have h7 := HBN.out.lt
          omega)) HN.out HOK.out
      have d0 : ((((w9.setCell ⟨r0, 0, none⟩ (.int .u64 e)).setCell ⟨r0, 1, none⟩ (.int .u64 l)).setCell ⟨r0, 2, none⟩ (.slice A n c))).cell? ⟨r0, 0, none⟩ = some (.int .u64 e) := b4.cell 0
      have d1 : ((((w9.setCell ⟨r0, 0, none⟩ (.int .u64 e)).setCell ⟨r0, 1, none⟩ (.int .u64 l)).setCell ⟨r0, 2, none⟩ (.slice A n c))).cell? ⟨r0, 1, none⟩ = some (.int .u64 l) := b4.cell 1
      have d2 : ((((w9.setCell ⟨r0, 0, none⟩ (.int .u64 e)).setCell ⟨r0, 1, none⟩ (.int .u64 l)).setCell ⟨r0, 2, none⟩ (.slice A n c))).cell? ⟨r0, 2, none⟩ = some (.slice A n c) := b4.cell 2
      exact bodyPost_ret (v := .tuple #[.agg #[.int .u64 e, .int .u64 l, .slice A n c], .int .i64 (m : Int), .int .i64 0]) (by simp [results, Try.results10, go_sem, d0, d1, d2]) rfl ⟨A, c, rfl, hI, hE⟩
end Go.Proofs.Ytmfbggdoejcpiaa.RC
