/- DiskRefuses: the walk. No condition. -/
import Derived.Test.YtlnomfaaldjnpaaDkEval
import Derived.Deep.CutBlock
import Derived.Deep.Cut
namespace Go.Proofs.Ytlnomfaaldjnpaa.diskRefuses
open Go.RowKit Go.Proofs.Ytlnomfaaldjnpaa.DK
set_option linter.unusedVariables false
set_option linter.unusedSimpArgs false

abbrev q6 : ByteArray := sameT 113 6
abbrev rA : Dk := admitK (newK 6) 1 3
abbrev rD : Dk := writeK rA 1 3 0 q6
theorem rA_eq : admitE (newK 6) 1 3 = 0 ∧ rA = { newK 6 with table := updF (fun _ => 0) 1 3, last := 3 } := admit_good rfl rfl rfl (by decide)
theorem rD_eq : writeE rA 1 3 0 q6 = 0 ∧ rD = manyK rA 1 0 q6 6 := by
  have h := rA_eq.2
  exact write_good (by rw [h]; rfl) rfl (by rw [h]; rfl) (by rw [h]; rfl) (by decide) (by rw [sameT_size]) (by omega) (by rw [h]; decide)
theorem rD_on : rD.on = true ∧ rD.room = 6 ∧ rD.armed = false ∧ rD.table = updF (fun _ => 0) 1 3 := by
  have f := many_fields rA 1 0 q6 6
  rw [← rD_eq.2] at f
  have h := rA_eq.2
  exact ⟨f.1.trans (by rw [h]; rfl), f.2.1.trans (by rw [h]; rfl), f.2.2.2.2.2.1.trans (by rw [h]; rfl), f.2.2.1.trans (by rw [h])⟩
def goodB (node at_ epoch : Int) (len : Nat) : Bool := (node == 1) && (epoch == 3) && decide (0 < len) && (len % 64 == 0) && decide (len ≤ 1024) && decide (0 ≤ at_) && decide (at_ ≤ 6 - ((len / 64 : Nat) : Int))
theorem good_iff {node at_ epoch : Int} {len : Nat} : goodB node at_ epoch len = true ↔ node = 1 ∧ epoch = 3 ∧ 64 ≤ len ∧ len % 64 = 0 ∧ len / 64 ≤ 16 ∧ 0 ≤ at_ ∧ at_ ≤ 6 - ((len / 64 : Nat) : Int) := by
  unfold goodB
  simp
  constructor
  · rintro ⟨⟨⟨⟨⟨⟨h1, h2⟩, h3⟩, h4⟩, h5⟩, h6⟩, h7⟩
    exact ⟨h1, h2, by omega, h4, by omega, h6, h7⟩
  · rintro ⟨h1, h2, h3, h4, h5, h6, h7⟩
    exact ⟨⟨⟨⟨⟨⟨h1, h2⟩, by omega⟩, h4⟩, by omega⟩, h6⟩, h7⟩
theorem all_ok {D : Dk} {n e q : Int} {b : ByteArray} (h : writeE D n e q b = 0) : mayK D n = 0 ∧ argB b = true ∧ admK D n e = 0 ∧ thereK D q ((b.size / 64 : Nat) : Int) = true := by
  unfold writeE at h
  by_cases h1 : mayK D n = 0
  · rw [if_pos h1] at h
    cases h2 : argB b
    · rw [h2] at h; cases h
    · rw [h2, if_pos rfl] at h
      by_cases h3 : admK D n e = 0
      · rw [if_pos h3] at h
        cases h4 : thereK D q ((b.size / 64 : Nat) : Int)
        · rw [h4] at h; cases h
        · exact ⟨h1, rfl, h3, rfl⟩
      · rw [if_neg h3] at h; cases h
  · rw [if_neg h1] at h; exact absurd h h1
/-- It is written just where it may. -/
theorem write_iff (node at_ epoch : Int) (data : ByteArray) : writeE rD node epoch at_ data = 0 ↔ goodB node at_ epoch data.size = true := by
  obtain ⟨h1, h2, h3, h4⟩ := rD_on
  rw [good_iff]
  constructor
  · intro h
    obtain ⟨m1, m2, m3, m4⟩ := all_ok h
    have hB := (argB_iff data).1 m2
    have hne : epoch ≠ 0 ∧ rD.table node = epoch := by
      unfold admK at m3
      by_cases h0 : epoch = 0
      · rw [h0] at m3; cases m3
      · refine ⟨h0, ?_⟩
        by_cases h5 : rD.table node = epoch
        · exact h5
        · simp [h0, h5] at m3
    rw [h4] at hne
    have hn : node = 1 := by
      by_cases h5 : node = 1
      · exact h5
      · rw [updF_other _ _ h5] at hne; exact absurd hne.2.symm hne.1
    subst hn
    rw [updF_same] at hne
    unfold thereK at m4
    rw [h2] at m4
    simp at m4
    exact ⟨rfl, hne.2.symm, by omega, by omega, by omega, by omega, by omega⟩
  · rintro ⟨rfl, rfl, h5, h6, h7, h8, h9⟩
    exact (write_good (c := data.size / 64) h1 rfl h3 (by rw [h4]; rfl) (by decide) (by omega) (by omega) (by rw [h2]; omega)).1
theorem read_all : readT rD 0 6 = q6 := by
  have h := read_good (D := rD) (a := 0) (k := 6) rD_on.1 (by omega) (by rw [rD_on.2.1]; omega)
  rw [show (((6 : Nat) : Int)) = 6 from rfl] at h
  rw [h.2, rD_eq.2, read_many _ _ _ _ _ (by rw [sameT_size])]
/-- What stands behind the write. -/
structure After (node at_ epoch : Int) (data X : ByteArray) (F G : Int) (D3 : Dk) : Prop where
  on : F = 0
  bad : goodB node at_ epoch data.size = false → X = q6
  good : goodB node at_ epoch data.size = true → X.size = 384 ∧ X.extract (64 * at_.toNat) (64 * at_.toNat + data.size) = data
theorem after (node at_ epoch : Int) (data : ByteArray) : After node at_ epoch data (readT (writeK rD node epoch at_ data) 0 6) (readE (writeK rD node epoch at_ data) 0 6) 0 rD := by
  obtain ⟨h1, h2, h3, h4⟩ := rD_on
  cases hg : goodB node at_ epoch data.size
  · have hw : writeK rD node epoch at_ data = rD := writeK_refused (by
      rintro ⟨m1, m2, m3, m4⟩
      have : writeE rD node epoch at_ data = 0 := by unfold writeE; rw [if_pos m1, if_pos m2, if_pos m3, m4, (goes_un h3).1]; rfl
      rw [(write_iff node at_ epoch data).1 this] at hg
      cases hg)
    rw [hw]
    refine ⟨?_, fun _ => read_all, fun h => (by rw [hg] at h; cases h)⟩
    exact (read_good (D := rD) (a := 0) (k := 6) h1 (by omega) (by rw [h2]; omega)).1
  · obtain ⟨rfl, rfl, h5, h6, h7, h8, h9⟩ := good_iff.1 hg
    obtain ⟨c, hc⟩ : ∃ c, data.size / 64 = c := ⟨_, rfl⟩
    obtain ⟨k, rfl⟩ : ∃ k : Nat, at_ = (k : Int) := ⟨at_.toNat, by omega⟩
    rw [hc] at h7 h9
    have hb : data.size = 64 * c := by omega
    have hw := (write_good (D := rD) (a := (k : Int)) (c := c) h1 (show inNode 1 = true from rfl) h3 (e := 3) (by rw [h4]; rfl) (by decide) hb (by omega) (by rw [h2]; omega)).2
    rw [hw]
    have f := many_fields rD 1 (k : Int) data c
    have hr := read_good (D := manyK rD 1 (k : Int) data c) (a := 0) (k := 6) (by rw [f.1]; exact h1) (by omega) (by rw [f.2.1, h2]; omega)
    rw [show (((6 : Nat) : Int)) = 6 from rfl] at hr
    rw [hr.1, hr.2]
    obtain ⟨m, hm⟩ : ∃ m, 6 = k + (c + m) := ⟨6 - k - c, by omega⟩
    have hl : readS (manyK rD 1 (k : Int) data c) 0 6 = readS (manyK rD 1 (k : Int) data c) 0 k ++ (data.data.toList ++ readS (manyK rD 1 (k : Int) data c) ((k : Int) + (c : Int)) m) := by
      rw [hm, readS_add, readS_add]
      rw [show (0 : Int) + (k : Int) = (k : Int) by omega, read_many rD 1 (k : Int) data c hb]
    have hs : Sane (manyK rD 1 (k : Int) data c) := by
      have s0 : Sane rD := by
        rw [rD_eq.2, rA_eq.2]
        have hmn : ∀ j, j ≤ 6 → Sane (manyK { newK 6 with table := updF (fun _ => 0) 1 3, last := 3 } 1 0 q6 j) := by
          intro j hj
          induction j with
          | zero => exact sane_like (sane_new 6 (by omega)) rfl rfl rfl rfl rfl
          | succ j ih => exact (ih (by omega)).one _ _ _ (sect_size (by rw [sameT_size]; omega)) (by omega)
        exact hmn 6 (by omega)
      have hmn : ∀ j, j ≤ c → Sane (manyK rD 1 (k : Int) data j) := by
        intro j hj
        induction j with
        | zero => exact s0
        | succ j ih => exact (ih (by omega)).one _ _ _ (sect_size (by omega)) (by omega)
      exact hmn c (Nat.le_refl _)
    have hk := readS_len hs 0 k
    have hall := readS_len hs 0 6
    refine ⟨rfl, fun h => (by rw [hg] at h; cases h), fun _ => ⟨(by show (readS _ 0 6).toArray.size = 384; rw [List.size_toArray, hall]), ?_⟩⟩
    apply ByteArray.ext
    rw [ByteArray.data_extract]
    apply Array.ext'
    rw [Array.toList_extract, List.extract_eq_take_drop]
    show ((readS (manyK rD 1 (k : Int) data c) 0 6).drop _).take _ = _
    rw [hl, show 64 * ((k : Int)).toNat = (readS (manyK rD 1 (k : Int) data c) 0 k).length by rw [hk]; omega, List.drop_left, hk]
    rw [show 64 * k + data.size - 64 * k = data.data.toList.length by rw [Array.length_toList]; show _ = data.size; omega, List.take_left]
def there6 (at_ n : Int) : Bool := decide (1 ≤ n) && decide (n ≤ 6) && decide (0 ≤ at_) && decide (at_ ≤ 6 - n)
theorem read_iff (node at_ epoch n : Int) (data : ByteArray) : (readE (writeK rD node epoch at_ data) at_ n == 0) = there6 at_ n := by
  obtain ⟨h1, h2, h3, h4⟩ := rD_on
  have hf : (writeK rD node epoch at_ data).on = true ∧ (writeK rD node epoch at_ data).room = 6 := by
    unfold writeK
    split
    · rw [(goes_un h3).1, (goes_un h3).2]
      have f := many_fields rD node at_ data (data.size / 64)
      exact ⟨f.1.trans h1, f.2.1.trans h2⟩
    · exact ⟨h1, h2⟩
  unfold readE
  rw [hf.1, if_pos rfl]
  unfold readB thereK there6
  rw [hf.2]
  by_cases c1 : 1 ≤ n <;> by_cases c2 : n ≤ 6 <;> by_cases c3 : 0 ≤ at_ <;> by_cases c4 : at_ ≤ 6 - n <;> simp [c1, c2, c3, c4] <;> omega
def Mid (w : World) (g : Nat) (D : Dk) (wx : World) : Prop := Own w g 32 D wx
set_option maxHeartbeats 4000000 in
set_option maxRecDepth 100000 in
theorem walk (a0 a1 a2 a3 : Int) (a4 : ByteArray) (w : World) (g0 : (Lit.int .i64 a0).wf = true) (g1 : (Lit.int .i64 a1).wf = true) (g2 : (Lit.int .i64 a2).wf = true) (g3 : (Lit.int .u64 a3).wf = true) (g4 : a4.size ≤ maxLen) :
    Calls Try.prog 3 #[.int .i64 a0, .int .i64 a1, .int .i64 a2, .int .u64 a3, .string a4] w fun e w' => e = .returned (.bool true) ∧ Below w.heap.size w w' := by
  unfold maxLen at g4
  by_cases c1 : (1200 : Int) < a4.size
  · have b1 : decide ((1200 : Int) < (a4.size : Int)) = true := by simpa using c1
    go_enter Try.func3, Try.ntmps3
    go_wp2_with (go_at_call 12; refine (alive_any _).mono ?_; rintro e w1 ⟨rfl, hb⟩)
    go_ret
    exact ⟨rfl, hb⟩
  have knew := own_new w (belowSame w) 6 (by omega) (by omega)
  have kadm : ∀ {g : Nat} {W : World}, Own w g 0 (newK 6) W → Calls Try.prog 14 #[.pointer (some ⟨g, 0, none⟩), .int .i64 1, .int .u64 3] W fun e' w' => e' = .returned (.int .i64 0) ∧ Own w g 0 rA w' := fun {g W} h => by
    have := own_admit h 1 3 (by omega); rwa [rA_eq.1] at this
  have hfill : ∀ W, Calls Try.prog 16 #[.string ⟨#[113]⟩, .int .i64 6] W fun e w' => e = .returned (.string q6) ∧ Below W.heap.size W w' := fun W => fill_any W 113 6 (by omega)
  have kwri : ∀ {g : Nat} {W : World}, Own w g 0 rA W → Calls Try.prog 15 #[.pointer (some ⟨g, 0, none⟩), .int .i64 1, .int .u64 3, .int .i64 0, .string q6] W fun e' w' => e' = .returned (.int .i64 0) ∧ Own w g 16 rD w' := fun {g W} h => by
    have := own_write h 1 3 0 q6 (by rw [sameT_size]; omega) (by omega); rwa [rD_eq.1] at this
  have kw2 : ∀ {g : Nat} {W : World}, Own w g 16 rD W → _ := fun {g W} h => own_write h a0 a3 a1 a4 (by omega) (by omega)
  have hiff := write_iff a0 a1 a3 a4
  have haf := after a0 a1 a3 a4
  have hri := read_iff a0 a1 a3 a2 a4
  obtain ⟨E, hE⟩ : ∃ E, writeE rD a0 a3 a1 a4 = E := ⟨_, rfl⟩
  obtain ⟨D3, hD3⟩ : ∃ D3, writeK rD a0 a3 a1 a4 = D3 := ⟨_, rfl⟩
  rw [hE] at hiff
  rw [hD3] at haf hri
  have kw3 : ∀ {g : Nat} {W : World}, Own w g 16 rD W → Calls Try.prog 15 #[.pointer (some ⟨g, 0, none⟩), .int .i64 a0, .int .u64 a3, .int .i64 a1, .string a4] W fun e' w' => e' = .returned (.int .i64 E) ∧ Own w g 32 D3 w' := fun {g W} h => by
    have := kw2 h; rwa [hE, hD3] at this
  have kr6 : ∀ {g : Nat} {W : World}, Own w g 32 D3 W → Calls Try.prog 17 #[.pointer (some ⟨g, 0, none⟩), .int .i64 0, .int .i64 6] W fun e' w' => e' = .returned (.tuple #[.string (readT D3 0 6), .int .i64 (readE D3 0 6)]) ∧ Own w g 32 D3 w' := fun {g W} h => own_read h 0 6
  have krn : ∀ {g : Nat} {W : World}, Own w g 32 D3 W → Calls Try.prog 17 #[.pointer (some ⟨g, 0, none⟩), .int .i64 a1, .int .i64 a2] W fun e' w' => e' = .returned (.tuple #[.string (readT D3 a1 a2), .int .i64 (readE D3 a1 a2)]) ∧ Own w g 32 D3 w' := fun {g W} h => own_read h a1 a2
  obtain ⟨X, hX⟩ : ∃ X, readT D3 0 6 = X := ⟨_, rfl⟩
  obtain ⟨X2, hX2⟩ : ∃ X, readT D3 a1 a2 = X := ⟨_, rfl⟩
  obtain ⟨G, hG⟩ : ∃ G, readE D3 a1 a2 = G := ⟨_, rfl⟩
  rw [hX, haf.on] at kr6
  rw [hX] at haf
  rw [hX2, hG] at krn
  rw [hG] at hri
  obtain ⟨gd, hgd⟩ : ∃ gd, goodB a0 a1 a3 a4.size = gd := ⟨_, rfl⟩
  have HGD := Lib.hid hgd
  have HRI := Lib.hid hri
  have HX := Lib.hid haf.bad
  have HY := Lib.hid haf.good
  have hEg : (E == 0) = gd := by
    rw [← hgd]
    cases h : goodB a0 a1 a3 a4.size
    · rw [h] at hiff; simpa using hiff
    · rw [h] at hiff; simpa using hiff
  clear hiff haf hri hE hD3 hX hX2 hG hgd kw2
  generalize rD = D2 at *
  generalize rA = D1 at *
  have b1 : decide ((1200 : Int) < (a4.size : Int)) = false := by simpa using c1
  have hq : (a4.size : Int).tdiv 64 = ((a4.size / 64 : Nat) : Int) := by rw [Int.tdiv_eq_ediv_of_nonneg (by omega)]; omega
  have hm : (a4.size : Int).tmod 64 = ((a4.size % 64 : Nat) : Int) := by rw [Int.tmod_eq_emod_of_nonneg (by omega)]; omega
  go_enter Try.func3, Try.ntmps3
  go_upto_region 9 with (first
    | (go_at_call 13; refine knew.mono ?_; rintro e w1 ⟨g, rfl, h1⟩; have H1 := Lib.hid h1; clear h1)
    | (go_at_call 14; (with_reducible refine (kadm H1.out).mono ?_); rintro e w2 ⟨rfl, h2⟩; have H2 := Lib.hid h2; clear h2)
    | (go_at_call 16; (with_reducible refine (hfill _).mono ?_); rintro e w3 ⟨rfl, h3⟩; have H3 := Lib.hid (H2.out.then_ h3); clear h3)
    | (go_at_call 15; first | ((with_reducible refine (kwri H3.out).mono ?_); rintro e w4 ⟨rfl, h4⟩; have H4 := Lib.hid h4; clear h4) | ((with_reducible refine (kw3 H4.out).mono ?_); rintro e w5 ⟨rfl, h5⟩; have H5 := Lib.hid h5; clear h5))
    | (go_at_call 17; first | ((with_reducible refine (kr6 H5.out).mono ?_); rintro e w6 ⟨rfl, h6⟩; have H6 := Lib.hid h6; clear h6) | ((with_reducible refine (krn H6.out).mono ?_); rintro e w7 ⟨rfl, h7⟩; have H7 := Lib.hid h7; clear h7)))
  obtain ⟨L, hL⟩ : ∃ L, a4.size = L := ⟨_, rfl⟩
  obtain ⟨r, hr⟩ : ∃ r, L % 64 = r := ⟨_, rfl⟩
  obtain ⟨t, ht⟩ : ∃ t, L / 64 = t := ⟨_, rfl⟩
  rw [hL] at hq hm
  rw [hr] at hm
  rw [ht] at hq
  go_cut [17] (fun v wx => v = .bool gd ∧ Hid (Own w g 32 D3 wx))
  case first =>
    rw [hL] at HGD
    have hgd := HGD.out
    unfold goodB at hgd
    rw [hr, ht] at hgd
    clear HGD
    cases d0 : (a0 == 1)
    · rw [d0] at hgd
      obtain rfl : gd = false := by rw [← hgd]; rfl
      clear hgd
      go_wp2_with fail
      go_meet
      exact ⟨by first | rfl | simp, H7⟩
    · skip
      cases d1 : (a3 == 3)
      · rw [d0, d1] at hgd
        obtain rfl : gd = false := by rw [← hgd]; rfl
        clear hgd
        go_wp2_with fail
        go_meet
        exact ⟨by first | rfl | simp, H7⟩
      · skip
        cases d2 : decide (0 < L)
        · rw [d0, d1, d2] at hgd
          obtain rfl : gd = false := by rw [← hgd]; rfl
          have d2' : decide ((0 : Int) < (L : Int)) = false := by rw [← d2]; exact decide_eq_decide.2 (by omega)
          clear hgd
          go_wp2_with fail
          go_meet
          exact ⟨by first | rfl | simp, H7⟩
        · have d2' : decide ((0 : Int) < (L : Int)) = true := by rw [← d2]; exact decide_eq_decide.2 (by omega)
          cases d3 : (r == 0)
          · rw [d0, d1, d2, d3] at hgd
            obtain rfl : gd = false := by rw [← hgd]; rfl
            have d3' : ((r : Int) == 0) = false := by rw [← d3]; cases h9 : (r == 0) <;> simp at h9 ⊢ <;> omega
            clear hgd
            go_wp2_with fail
            go_meet
            exact ⟨by first | rfl | simp, H7⟩
          · have d3' : ((r : Int) == 0) = true := by rw [← d3]; cases h9 : (r == 0) <;> simp at h9 ⊢ <;> omega
            cases d4 : decide (L ≤ 1024)
            · rw [d0, d1, d2, d3, d4] at hgd
              obtain rfl : gd = false := by rw [← hgd]; rfl
              have d4' : decide ((L : Int) ≤ 1024) = false := by rw [← d4]; exact decide_eq_decide.2 (by omega)
              clear hgd
              go_wp2_with fail
              go_meet
              exact ⟨by first | rfl | simp, H7⟩
            · have d4' : decide ((L : Int) ≤ 1024) = true := by rw [← d4]; exact decide_eq_decide.2 (by omega)
              cases d5 : decide (0 ≤ a1)
              · rw [d0, d1, d2, d3, d4, d5] at hgd
                obtain rfl : gd = false := by rw [← hgd]; rfl
                clear hgd
                go_wp2_with fail
                go_meet
                exact ⟨by first | rfl | simp, H7⟩
              · skip
                cases d6 : decide (a1 ≤ 6 - (t : Int))
                · rw [d0, d1, d2, d3, d4, d5, d6] at hgd
                  obtain rfl : gd = false := by rw [← hgd]; rfl
                  clear hgd
                  go_wp2_with fail
                  go_meet
                  exact ⟨by first | rfl | simp, H7⟩
                · skip
                  rw [d0, d1, d2, d3, d4, d5, d6] at hgd
                  obtain rfl : gd = true := by rw [← hgd]; rfl
                  clear hgd
                  go_wp2_with fail
                  go_meet
                  exact ⟨by first | rfl | simp, H7⟩
  case rest =>
    obtain ⟨rfl, H8⟩ := hcut
    clear H7
    cases gd
    · obtain rfl := HX.out HGD.out
      clear HX HY HGD
      have hri := HRI.out
      unfold there6 at hri
      cases e0 : decide (1 ≤ a2)
      · rw [e0] at hri
        simp only [Bool.and_false, Bool.false_and, Bool.true_and, Bool.and_true] at hri
        go_wp2_with (first | (go_at_call 16; (with_reducible refine (hfill _).mono ?_); rintro e w8 ⟨rfl, h9⟩; have H9 := Lib.hid (H8.out.then_ h9); clear h9) | (go_at_call 12; refine (alive_any _).mono ?_; rintro e w9 ⟨rfl, h10⟩; have HB := Lib.hid (H9.out.then_ h10); clear h10))
        go_ret
        exact ⟨ret_bool (by first | rfl | simp), HB.out.bel⟩
      · skip
        cases e1 : decide (a2 ≤ 6)
        · rw [e0, e1] at hri
          simp only [Bool.and_false, Bool.false_and, Bool.true_and, Bool.and_true] at hri
          go_wp2_with (first | (go_at_call 16; (with_reducible refine (hfill _).mono ?_); rintro e w8 ⟨rfl, h9⟩; have H9 := Lib.hid (H8.out.then_ h9); clear h9) | (go_at_call 12; refine (alive_any _).mono ?_; rintro e w9 ⟨rfl, h10⟩; have HB := Lib.hid (H9.out.then_ h10); clear h10))
          go_ret
          exact ⟨ret_bool (by first | rfl | simp), HB.out.bel⟩
        · skip
          cases e2 : decide (0 ≤ a1)
          · rw [e0, e1, e2] at hri
            simp only [Bool.and_false, Bool.false_and, Bool.true_and, Bool.and_true] at hri
            go_wp2_with (first | (go_at_call 16; (with_reducible refine (hfill _).mono ?_); rintro e w8 ⟨rfl, h9⟩; have H9 := Lib.hid (H8.out.then_ h9); clear h9) | (go_at_call 12; refine (alive_any _).mono ?_; rintro e w9 ⟨rfl, h10⟩; have HB := Lib.hid (H9.out.then_ h10); clear h10))
            go_ret
            exact ⟨ret_bool (by first | rfl | simp), HB.out.bel⟩
          · skip
            cases e3 : decide (a1 ≤ 6 - a2)
            · rw [e0, e1, e2, e3] at hri
              simp only [Bool.and_false, Bool.false_and, Bool.true_and, Bool.and_true] at hri
              have hwr : IntKind.i64.wrap (6 - a2) = 6 - a2 := IntWalk.i64_in _ (by have h1 := of_decide_eq_true e0; have h2 := of_decide_eq_true e1; omega)
              go_wp2_with (first | (go_at_call 16; (with_reducible refine (hfill _).mono ?_); rintro e w8 ⟨rfl, h9⟩; have H9 := Lib.hid (H8.out.then_ h9); clear h9) | (go_at_call 12; refine (alive_any _).mono ?_; rintro e w9 ⟨rfl, h10⟩; have HB := Lib.hid (H9.out.then_ h10); clear h10))
              go_ret
              exact ⟨ret_bool (by first | rfl | simp), HB.out.bel⟩
            · skip
              rw [e0, e1, e2, e3] at hri
              simp only [Bool.and_true] at hri
              have hwr : IntKind.i64.wrap (6 - a2) = 6 - a2 := IntWalk.i64_in _ (by have h1 := of_decide_eq_true e0; have h2 := of_decide_eq_true e1; omega)
              go_wp2_with (first | (go_at_call 16; (with_reducible refine (hfill _).mono ?_); rintro e w8 ⟨rfl, h9⟩; have H9 := Lib.hid (H8.out.then_ h9); clear h9) | (go_at_call 12; refine (alive_any _).mono ?_; rintro e w9 ⟨rfl, h10⟩; have HB := Lib.hid (H9.out.then_ h10); clear h10))
              go_ret
              exact ⟨ret_bool (by first | rfl | simp), HB.out.bel⟩
    · obtain ⟨x1, x2⟩ := HY.out HGD.out
      have hg6 := good_iff.1 HGD.out
      obtain ⟨-, -, j1, j2, j3, j4, j5⟩ := hg6
      have hsl : ∀ w : World, (Instr.slice 9 (.string X) (some (.int .i64 (64 * a1))) (some (.int .i64 (64 * a1 + (L : Int)))) none).run Try.prog w = .ok (.string a4) w := fun w => by
        rw [run_slice_string (P := Try.prog) w _ X .i64 .i64 (64 * a1) (64 * a1 + (L : Int)) Try.underlying9 (by omega) (by omega) (by rw [x1]; omega)]
        rw [show (64 * a1).toNat = 64 * a1.toNat by omega, show (64 * a1 + (L : Int)).toNat = 64 * a1.toNat + a4.size by omega, x2]
      have w1 : IntKind.i64.wrap (64 * a1) = 64 * a1 := IntWalk.i64_in _ (by omega)
      have w2 : IntKind.i64.wrap (64 * a1 + (L : Int)) = 64 * a1 + (L : Int) := IntWalk.i64_in _ (by omega)
      clear HX HY HGD x1 x2 j1 j2 j3 j5 hr ht
      have hri := HRI.out
      unfold there6 at hri
      cases e0 : decide (1 ≤ a2)
      · rw [e0] at hri
        simp only [Bool.and_false, Bool.false_and, Bool.true_and, Bool.and_true] at hri
        go_wp2_with (first | (go_at_call 12; refine (alive_any _).mono ?_; rintro e w9 ⟨rfl, h10⟩; have HB := Lib.hid (H8.out.then_ h10); clear h10))
        go_ret
        exact ⟨ret_bool (by first | rfl | simp), HB.out.bel⟩
      · skip
        cases e1 : decide (a2 ≤ 6)
        · rw [e0, e1] at hri
          simp only [Bool.and_false, Bool.false_and, Bool.true_and, Bool.and_true] at hri
          go_wp2_with (first | (go_at_call 12; refine (alive_any _).mono ?_; rintro e w9 ⟨rfl, h10⟩; have HB := Lib.hid (H8.out.then_ h10); clear h10))
          go_ret
          exact ⟨ret_bool (by first | rfl | simp), HB.out.bel⟩
        · skip
          cases e2 : decide (0 ≤ a1)
          · exact absurd j4 (of_decide_eq_false e2)
          · skip
            cases e3 : decide (a1 ≤ 6 - a2)
            · rw [e0, e1, e2, e3] at hri
              simp only [Bool.and_false, Bool.false_and, Bool.true_and, Bool.and_true] at hri
              have hwr : IntKind.i64.wrap (6 - a2) = 6 - a2 := IntWalk.i64_in _ (by have h1 := of_decide_eq_true e0; have h2 := of_decide_eq_true e1; omega)
              go_wp2_with (first | (go_at_call 12; refine (alive_any _).mono ?_; rintro e w9 ⟨rfl, h10⟩; have HB := Lib.hid (H8.out.then_ h10); clear h10))
              go_ret
              exact ⟨ret_bool (by first | rfl | simp), HB.out.bel⟩
            · skip
              rw [e0, e1, e2, e3] at hri
              simp only [Bool.and_true] at hri
              have hwr : IntKind.i64.wrap (6 - a2) = 6 - a2 := IntWalk.i64_in _ (by have h1 := of_decide_eq_true e0; have h2 := of_decide_eq_true e1; omega)
              go_wp2_with (first | (go_at_call 12; refine (alive_any _).mono ?_; rintro e w9 ⟨rfl, h10⟩; have HB := Lib.hid (H8.out.then_ h10); clear h10))
              go_ret
              exact ⟨ret_bool (by first | rfl | simp), HB.out.bel⟩
end Go.Proofs.Ytlnomfaaldjnpaa.diskRefuses
