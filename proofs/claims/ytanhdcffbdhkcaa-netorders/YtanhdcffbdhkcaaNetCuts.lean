/- NetCuts: the walk. No condition. -/
import Derived.Test.YtanhdcffbdhkcaaNet6
import Derived.Test.YtanhdcffbdhkcaaRow
import Derived.Laws.MakeOwn
namespace Go.Proofs.Ytanhdcffbdhkcaa.netCuts
open Go.RowKit Go.Proofs.Ytanhdcffbdhkcaa.RP Go.Proofs.Ytanhdcffbdhkcaa.CM Go.Proofs.Ytanhdcffbdhkcaa.NT
set_option linter.unusedVariables false

def no : Int → Int → Bool := fun _ _ => false
abbrev e0 : ByteArray := ByteArray.mk #[]
theorem send_hit (C : Int → Int → Bool) (xs ps : List Pk) (p : Pk) (h : C (min p.f p.t) (max p.f p.t) = true) : sendB C xs (p :: ps) = sendB C xs ps := by
  show sendB C (sendOne C xs p) ps = _
  unfold sendOne; rw [if_pos h]
theorem send_miss (C : Int → Int → Bool) (xs ps : List Pk) (p : Pk) (h : C (min p.f p.t) (max p.f p.t) = false) (hl : xs.length < 900) : sendB C xs (p :: ps) = sendB C (xs ++ [p]) ps := by
  show sendB C (sendOne C xs p) ps = _
  unfold sendOne; rw [if_neg (by rw [h]; simp), if_pos hl]
theorem send_full (C : Int → Int → Bool) (xs ps : List Pk) (hl : 900 ≤ xs.length) : sendB C xs ps = xs := by
  induction ps with
  | nil => rfl
  | cons p ps ih =>
    show sendB C (sendOne C xs p) ps = xs
    have : sendOne C xs p = xs := by unfold sendOne; split; rfl; rw [if_neg (by omega)]
    rw [this, ih]
theorem send_many (C : Int → Int → Bool) (p : Pk) (h : C (min p.f p.t) (max p.f p.t) = false) : ∀ (n : Nat) (xs : List Pk), xs.length ≤ 900 → (sendB C xs (List.replicate n p)).length = min (xs.length + n) 900 := by
  intro n
  induction n with
  | zero => intro xs hx; show xs.length = _; omega
  | succ n ih =>
    intro xs hx
    rw [List.replicate_succ]
    by_cases hl : xs.length < 900
    · rw [send_miss C xs _ p h hl, ih _ (by simp; omega)]
      simp; omega
    · rw [send_full C xs _ (by omega)]; omega
theorem infoP : (Try.prog.info? 28).map (fun i => (i.zero, i.size, i.bytes)) = some (some (agg pk0), 3, 32) := by kernel_rfl
theorem made_list (n : Nat) : (madeCells (agg pk0).cells (n * 3)).toList = (List.replicate n pk0).flatMap val := by
  apply List.ext_getElem?
  intro j
  by_cases hj : j < n * 3
  · have hk : j / 3 < n := by omega
    have hr := flat_at val_len (List.replicate n pk0) (j / 3) (j % 3) (by simpa using hk) (by omega)
    rw [show j / 3 * 3 + j % 3 = j by omega] at hr
    rw [hr]
    have hl : (madeCells (agg pk0).cells (n * 3)).toList[j]? = some ((agg pk0).cells[j % 3]!) := by
      rw [Array.getElem?_toList]
      simp [madeCells, hj]
      rfl
    rw [hl]
    have : j % 3 = 0 ∨ j % 3 = 1 ∨ j % 3 = 2 := by omega
    rcases this with h | h | h <;> rw [h] <;> simp <;> rfl
  · rw [List.getElem?_eq_none (by rw [Array.length_toList, size_madeCells]; omega), List.getElem?_eq_none (by rw [flat_len val_len]; simp; omega)]

set_option maxHeartbeats 1000000 in
set_option maxRecDepth 100000 in
theorem walk (a b c n : Int) (w : World) (g0 : (Lit.int .i64 a).wf = true) (g1 : (Lit.int .i64 b).wf = true) (g2 : (Lit.int .i64 c).wf = true) (g3 : (Lit.int .i64 n).wf = true) :
    Calls Try.prog 4 #[.int .i64 a, .int .i64 b, .int .i64 c, .int .i64 n] w fun e w' => e = .returned (.bool true) ∧ Below w.heap.size w w' := by
  by_cases c1 : n < 0
  · go_enter Try.func4, Try.ntmps4
    go_wp2_with (go_at_call 7; refine (alive_any _).mono ?_; rintro e w1 ⟨rfl, hb⟩)
    go_ret
    exact ⟨rfl, hb⟩
  by_cases c2 : 1000 < n
  · go_enter Try.func4, Try.ntmps4
    go_wp2_with (go_at_call 7; refine (alive_any _).mono ?_; rintro e w1 ⟨rfl, hb⟩)
    go_ret
    exact ⟨rfl, hb⟩
  by_cases c3 : a = b
  · subst c3
    go_enter Try.func4, Try.ntmps4
    go_wp2_with (go_at_call 7; refine (alive_any _).mono ?_; rintro e w1 ⟨rfl, hb⟩)
    go_ret
    exact ⟨rfl, hb⟩
  have d3 : (a == b) = false := by simpa using c3
  by_cases c4 : a = c
  · subst c4
    go_enter Try.func4, Try.ntmps4
    go_wp2_with (go_at_call 7; refine (alive_any _).mono ?_; rintro e w1 ⟨rfl, hb⟩)
    go_ret
    exact ⟨rfl, hb⟩
  have d4 : (a == c) = false := by simpa using c4
  by_cases c5 : b = c
  · subst c5
    go_enter Try.func4, Try.ntmps4
    go_wp2_with (go_at_call 7; refine (alive_any _).mono ?_; rintro e w1 ⟨rfl, hb⟩)
    go_ret
    exact ⟨rfl, hb⟩
  have d5 : (b == c) = false := by simpa using c5
  obtain ⟨N, rfl⟩ : ∃ N : Nat, n = (N : Int) := ⟨n.toNat, by omega⟩
  -- what is cut
  obtain ⟨C1, hC1⟩ : ∃ C, cutC no a b true = C := ⟨_, rfl⟩
  obtain ⟨C2, hC2⟩ : ∃ C, cutC C1 b a false = C := ⟨_, rfl⟩
  have v1 : ∀ x y, C1 x y = (x == min a b && y == max a b) := by intro x y; rw [← hC1]; unfold cutC withIn withOut no; simp
  have v2 : ∀ x y, C2 x y = false := by
    intro x y
    rw [← hC2]
    unfold cutC withOut
    simp only [Bool.false_eq_true, if_false, v1]
    rw [show min b a = min a b by omega, show max b a = max a b by omega]
    cases (x == min a b && y == max a b) <;> rfl
  have s1 : sendB C1 [] [⟨a, b, e0⟩, ⟨b, a, e0⟩, ⟨a, c, e0⟩] = [⟨a, c, e0⟩] := by
    rw [send_hit C1 _ _ _ (by rw [v1]; simp), send_hit C1 _ _ _ (by rw [v1]; simp; omega), send_miss C1 _ _ _ (by rw [v1]; simp; omega) (by simp)]
    rfl
  have s2 : sendB C2 [⟨a, c, e0⟩] [⟨b, a, e0⟩] = [⟨a, c, e0⟩, ⟨b, a, e0⟩] := by
    rw [send_miss C2 _ _ _ (v2 _ _) (by simp)]
    rfl
  obtain ⟨zs, hzs⟩ : ∃ zs, sendB C2 [⟨a, c, e0⟩, ⟨b, a, e0⟩] (List.replicate N pk0) = zs := ⟨_, rfl⟩
  have s3 : zs.length = min (2 + N) 900 := by rw [← hzs, send_many C2 pk0 (v2 _ _) N _ (by simp)]; rfl
  obtain ⟨i0, hi, hz0, hz1, hz2⟩ := info_parts infoP
  have hmk : ∀ W : World, (Instr.makeSlice 36 (.int .i64 (N : Int)) (.int .i64 (N : Int))).run Try.prog W = .ok (.slice (some ⟨W.heap.size, 0, none⟩) N N) (W.alloc (.cells (madeCells (agg pk0).cells (N * 3)) TP)) := fun W => by
    have hr := run_make (P := Try.prog) W 36 TP i0 (agg pk0) Try.underlying36 hi hz0 .i64 .i64 (N : Int) (N : Int) (by omega) (by omega) (by rw [hz2]; omega) (by omega)
    rw [hz1] at hr
    simp only [Int.toNat_natCast] at hr
    exact hr
  have z0 : e0.size ≤ 1000000 := by decide
  have knew := own_new w (belowSame w)
  have kcut1 : ∀ {g : Nat} {W : World}, Own w g 0 [] (fun _ _ => false) W → Calls Try.prog 15 #[.pointer (some ⟨g, 0, none⟩), .int .i64 a, .int .i64 b, .bool true] W fun e w' => e = .returned (.tuple #[]) ∧ Own w g 1 [] C1 w' := fun {g W} h => hC1 ▸ own_cut h a b g0 g1 (by omega) true
  have kcut2 : ∀ {g : Nat} {W : World} {xs : List Pk}, Own w g 1 xs C1 W → Calls Try.prog 15 #[.pointer (some ⟨g, 0, none⟩), .int .i64 b, .int .i64 a, .bool false] W fun e w' => e = .returned (.tuple #[]) ∧ Own w g 2 xs C2 w' := fun {g W xs} h => hC2 ▸ own_cut h b a g1 g0 (by omega) false
  have ksend1 : ∀ {g : Nat} {W : World}, Own w g 1 [] C1 W → Calls Try.prog 9 #[.pointer (some ⟨g, 0, none⟩), .slice (some ⟨W.heap.size, 0, none⟩) 3 3] (W.alloc (.cells #[.int .i64 a, .int .i64 b, .string e0, .int .i64 b, .int .i64 a, .string e0, .int .i64 a, .int .i64 c, .string e0] TP)) fun e w' =>
      e = .returned (.int .i64 1) ∧ Own w g 1 [⟨a, c, e0⟩] C1 w' := fun {g W} h => by
    have := own_send h _ 3 3 [⟨a, b, e0⟩, ⟨b, a, e0⟩, ⟨a, c, e0⟩] (lies_pks W [⟨a, b, e0⟩, ⟨b, a, e0⟩, ⟨a, c, e0⟩] #[.int .i64 a, .int .i64 b, .string e0, .int .i64 b, .int .i64 a, .string e0, .int .i64 a, .int .i64 c, .string e0] rfl) (by omega) (by omega) (by intro p hp; simp at hp; rcases hp with rfl | rfl | rfl; exact ⟨g0, g1, z0⟩; exact ⟨g1, g0, z0⟩; exact ⟨g0, g2, z0⟩)
    rw [s1] at this
    exact this
  have ksend2 : ∀ {g : Nat} {W : World}, Own w g 2 [⟨a, c, e0⟩] C2 W → Calls Try.prog 9 #[.pointer (some ⟨g, 0, none⟩), .slice (some ⟨W.heap.size, 0, none⟩) 1 1] (W.alloc (.cells #[.int .i64 b, .int .i64 a, .string e0] TP)) fun e w' =>
      e = .returned (.int .i64 1) ∧ Own w g 2 [⟨a, c, e0⟩, ⟨b, a, e0⟩] C2 w' := fun {g W} h => by
    have := own_send h _ 1 1 [⟨b, a, e0⟩] (lies_pks W [⟨b, a, e0⟩] #[.int .i64 b, .int .i64 a, .string e0] rfl) (by omega) (by omega) (by intro p hp; simp at hp; subst hp; exact ⟨g1, g0, z0⟩)
    rw [s2] at this
    exact this
  obtain ⟨r, hr⟩ : ∃ r : Int, (zs.length : Int) - 2 = r := ⟨_, rfl⟩
  have ksend3 : ∀ {g : Nat} {W : World}, Own w g 2 [⟨a, c, e0⟩, ⟨b, a, e0⟩] C2 W → Calls Try.prog 9 #[.pointer (some ⟨g, 0, none⟩), .slice (some ⟨W.heap.size, 0, none⟩) N N] (W.alloc (.cells (madeCells (agg pk0).cells (N * 3)) TP)) fun e w' =>
      e = .returned (.int .i64 r) ∧ Own w g 2 zs C2 w' := fun {g W} h => by
    have hl := lies_pks W (List.replicate N pk0) (madeCells (agg pk0).cells (N * 3)) (made_list N)
    rw [List.length_replicate] at hl
    have := own_send h _ N N (List.replicate N pk0) hl (by omega) (Nat.le_refl _) (by intro p hp; obtain rfl := List.eq_of_mem_replicate hp; exact ⟨wf0, wf0, by decide⟩)
    rw [hzs] at this
    rw [← hr]
    exact this
  obtain ⟨sz, hsz⟩ : ∃ sz : Int, 2 + r = sz := ⟨_, rfl⟩
  have hsz2 : (sz == 2 + r) = true := by rw [← hsz]; simp
  have kclear : ∀ {g : Nat} {W : World}, Own w g 2 zs C2 W → Calls Try.prog 16 #[.pointer (some ⟨g, 0, none⟩)] W fun e w' => e = .returned (.int .i64 sz) ∧ Own w g 2 [] C2 w' := fun {g W} h => by
    have := own_clear h
    rw [show (zs.length : Int) = sz by omega] at this
    exact this
  have klen : ∀ {g : Nat} {W : World}, Own w g 2 [] C2 W → Calls Try.prog 14 #[.pointer (some ⟨g, 0, none⟩)] W fun e w' => e = .returned (.int .i64 0) ∧ Own w g 2 [] C2 w' := fun {g W} h => own_len h
  have hrN : r = min (N : Int) 898 := by omega
  have HN : (0 : Int) ≤ (N : Int) := by omega
  have r0 : 0 ≤ r := by omega
  have r1 : r ≤ 898 := by omega
  have hrb : (r == min (N : Int) 898) = true := by rw [hrN]; simp
  have cases3 : (N : Int) < 898 ∧ r = (N : Int) ∨ 898 ≤ (N : Int) ∧ r = 898 := by omega
  clear hC1 hC2 v1 v2 s1 s2 s3 hzs hr hi hz0 hz1 hz2 hrN c3 c4 c5 hsz
  generalize madeCells (agg pk0).cells (N * 3) = M at hmk ksend3
  obtain ⟨q, hq⟩ : ∃ q, min (N : Int) 898 = q := ⟨_, rfl⟩
  have hqr : (r == q) = true := by rw [← hq]; simp; omega
  have HQ := Lib.hid hq
  clear cases3 HN
  have c2' : (N : Int) ≤ 1000 := by omega
  have c1' : (0 : Int) ≤ (N : Int) := by omega
  clear c1 c2
  go_enter Try.func4, Try.ntmps4
  go_wp2_with (go_at_call 8; refine knew.mono ?_; rintro e w1 ⟨rfl, h1⟩; have H1 := Lib.hid h1; clear h1)
  go_wp2_with (go_at_call 15; ((with_reducible refine (kcut1 H1.out).mono ?_); rintro e w2 ⟨rfl, h2⟩; have H2 := Lib.hid h2; clear h2))
  go_wp2_with (go_at_call 9; ((with_reducible refine (ksend1 H2.out).mono ?_); rintro e w3 ⟨rfl, h3⟩; have H3 := Lib.hid h3; clear h3))
  go_wp2_with (go_at_call 15; ((with_reducible refine (kcut2 H3.out).mono ?_); rintro e w4 ⟨rfl, h4⟩; have H4 := Lib.hid h4; clear h4))
  go_wp2_with (go_at_call 9; ((with_reducible refine (ksend2 H4.out).mono ?_); rintro e w5 ⟨rfl, h5⟩; have H5 := Lib.hid h5; clear h5))
  go_wp2_with (go_at_call 9; ((with_reducible refine (ksend3 H5.out).mono ?_); rintro e w6 ⟨rfl, h6⟩; have H6 := Lib.hid h6; clear h6))
  clear ksend3 ksend1 ksend2 kcut1 kcut2 hmk
  go_wp2_with (go_at_call 7; refine (alive_any _).mono ?_; rintro e w7 ⟨rfl, hb⟩; have H7 := Lib.hid (H6.out.then_ hb); clear hb)
  go_wp2_with (go_at_call 16; refine (kclear H7.out).mono ?_; rintro e w8 ⟨rfl, h8⟩; have H8 := Lib.hid h8; clear h8)
  go_wp2_with (go_at_call 14; refine (klen H8.out).mono ?_; rintro e w9 ⟨rfl, h9⟩; have H9 := Lib.hid h9; clear h9)
  go_ret
  exact ⟨rfl, H9.out.bel⟩
end Go.Proofs.Ytanhdcffbdhkcaa.netCuts
