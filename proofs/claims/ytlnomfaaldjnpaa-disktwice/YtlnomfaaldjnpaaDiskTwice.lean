/- DiskTwice: the walk. No condition. -/
import Derived.Test.YtlnomfaaldjnpaaDkTwin
import Derived.Deep.CutBlock
import Derived.Deep.Cut
namespace Go.Proofs.Ytlnomfaaldjnpaa.diskTwice
open Go.RowKit Go.Proofs.Ytlnomfaaldjnpaa.DK Go.Proofs.Ytlnomfaaldjnpaa.MI
set_option linter.unusedVariables false
set_option linter.unusedSimpArgs false

theorem cut_off_on (D : Dk) (keep : List Int) : (cutK D keep).on = false := by
  unfold cutK
  cases h : D.on
  · rw [if_neg (by decide)]; exact h
  · rw [if_pos rfl]
/-- The disk, as it stood at w1; its twin, made since. -/
structure Both (w w1 : World) (g t N M : Nat) (D E : Dk) (W : World) : Prop where
  d : Own w g N D w1
  t : Own w1 t M E W
section
variable {w w1 W : World} {g t N M : Nat} {D E : Dk}
theorem Both.here (h : Both w w1 g t N M D E W) : Own w g N D W := h.d.then_ h.t.bel
theorem Both.bel (h : Both w w1 g t N M D E W) : Below w.heap.size w W := h.here.bel
theorem Both.then_ (h : Both w w1 g t N M D E W) {W' : World} (hb : Below W.heap.size W W') : Both w w1 g t N M D E W' := ⟨h.d, h.t.then_ hb⟩
theorem Both.read (h : Both w w1 g t N M D E W) (q n : Int) : Calls Try.prog 17 #[.pointer (some ⟨g, 0, none⟩), .int .i64 q, .int .i64 n] W fun e' w' => e' = .returned (.tuple #[.string (readT D q n), .int .i64 (readE D q n)]) ∧ Both w w1 g t N M D E w' := by
  obtain ⟨p, h1, h2⟩ := h.here
  exact (read_any h1 q n).mono fun _ _ ⟨he, ho⟩ => ⟨he, h.then_ ho⟩
theorem Both.waiting (h : Both w w1 g t N M D E W) (n : Int) (hN : N ≤ 10000000) : Calls Try.prog 29 #[.pointer (some ⟨g, 0, none⟩), .int .i64 n] W fun e' w' => e' = .returned (.int .i64 (waitingK D n : Int)) ∧ Both w w1 g t N M D E w' := by
  obtain ⟨p, h1, h2⟩ := h.here
  exact (waiting_any h1 n (by omega)).mono fun _ _ ⟨he, ho⟩ => ⟨he, h.then_ ho⟩
theorem Both.run (h : Both w w1 g t N M D E W) (a : Option Addr) (len cap : Nat) (xs : List OpR) (hx : OpsIs w a len cap xs) (hlen : len ≤ 1000) (hM : M ≤ 100000) (hsz : ∀ o ∈ xs, o.data.size ≤ 20000) :
    Calls Try.prog 30 #[.pointer (some ⟨t, 0, none⟩), .slice a len cap] W fun e w' => e = .returned (.tuple #[]) ∧ ∃ E', Both w w1 g t N (M + 16 * len) D E' w' :=
  (run_any h.t a len cap xs (hx.old h.d.bel) hlen hM hsz).mono fun _ _ ⟨he, E', ho⟩ => ⟨he, E', h.d, ho⟩
theorem Both.cut (h : Both w w1 g t N M D E W) (hM : M ≤ 10000000) : Calls Try.prog 19 #[.pointer (some ⟨t, 0, none⟩), .slice (some ⟨W.heap.size, 0, none⟩) 3 3] (W.alloc (.cells #[.int .i64 1, .int .i64 1, .int .i64 1] 3)) fun e' w' => e' = .returned (.int .i64 (cutN E : Int)) ∧ Both w w1 g t N M D (cutK E [1, 1, 1]) w' :=
  (own_cut_new h.t (.cells #[.int .i64 1, .int .i64 1, .int .i64 1] 3) 3 3 [1, 1, 1] (Lies.of_blk (Blk.new W _ _)) hM).mono fun _ _ ⟨he, ho⟩ => ⟨he, h.d, ho⟩
end
theorem twin_own {w w1 : World} {g N : Nat} {D : Dk} (h : Own w g N D w1) (hN : N ≤ 100000000) : Calls Try.prog 31 #[.pointer (some ⟨g, 0, none⟩)] w1 fun e w' => ∃ t, e = .returned (.pointer (some ⟨t, 0, none⟩)) ∧ Both w w1 g t N N D D w' := by
  obtain ⟨p, h1, h2⟩ := h
  exact (twin_any h1 hN).mono fun _ _ ⟨t, he, ho⟩ => ⟨t, he, ⟨p, h1, h2⟩, ho⟩

set_option maxHeartbeats 8000000 in
set_option maxRecDepth 100000 in
theorem walk_in (A : Option Addr) (len cap : Nat) (xs : List OpR) (A2 : Option Addr) (len2 cap2 : Nat) (ys : List OpR) (w : World) (hlen : len ≤ 40) (hlen2 : len2 ≤ 40) (hx : OpsIs w A len cap xs) (hy : OpsIs w A2 len2 cap2 ys) :
    Calls Try.prog 10 #[.slice A len cap, .slice A2 len2 cap2] w fun e w' => e = .returned (.bool true) ∧ Below w.heap.size w w' := by
  have kl1 := light_any w A len cap xs hx
  have kl2 := fun (W : World) (hb : Below w.heap.size w W) => light_any W A2 len2 cap2 ys (hy.old hb)
  have HX := Lib.hid hx
  have HY := Lib.hid hy
  have HL2 := Lib.hid kl2
  have b2 : decide ((40 : Int) < (len : Int)) = false := by simp; omega
  have b3 : decide ((40 : Int) < (len2 : Int)) = false := by simp; omega
  clear hx hy kl2
  go_enter Try.func10, Try.ntmps10
  go_upto_region 4 with (first
    | (go_at_call 27; (with_reducible refine kl1.mono ?_); rintro e wl ⟨q, rfl, hq, hbl⟩; clear kl1; cases q; (go_wp2_with (go_at_call 12; refine (alive_any _).mono ?_; rintro e wz ⟨rfl, hz⟩); go_ret; exact ⟨rfl, hbl.trans (hz.mono hbl.size)⟩))
    | (go_at_call 27; refine (HL2.out _ hbl).mono ?_; rintro e wl2 ⟨q, rfl, hq2, hbl2⟩; clear HL2; have hbw := hbl.trans (hbl2.mono hbl.size); cases q; (go_wp2_with (go_at_call 12; refine (alive_any _).mono ?_; rintro e wz ⟨rfl, hz⟩); go_ret; exact ⟨rfl, hbw.trans (hz.mono hbw.size)⟩))
    | (go_at_call 13; refine (own_new w hbw 8 (by omega) (by omega)).mono ?_; rintro e w0 ⟨g, rfl, h0⟩; have H0 := Lib.hid h0; clear h0))
  have hs1 := (hq trivial).2
  have hs2 := (hq2 trivial).2
  have HS1 := Lib.hid hs1
  have HS2 := Lib.hid hs2
  clear hq hq2 hs1 hs2 hbl hbl2 hbw
  go_upto_region 8 with (first
    | (go_at_call 30; refine (run_any H0.out A len cap xs HX.out (by omega) (by omega) HS1.out).mono ?_; rintro e w1 ⟨rfl, D, h1⟩; have H1 := Lib.hid h1; clear h1)
    | (go_at_call 31; refine (twin_own H1.out (by omega)).mono ?_; rintro e w2 ⟨t, rfl, h2⟩; have H2 := Lib.hid h2; clear h2))
  have kr := fun {M : Nat} {E : Dk} {W : World} (h : Both w w1 g t (0 + 16 * len) M D E W) => h.read 0 8
  have kw := fun {M : Nat} {E : Dk} {W : World} (h : Both w w1 g t (0 + 16 * len) M D E W) => h.waiting 1 (by omega)
  obtain ⟨X, hX⟩ : ∃ X, readT D 0 8 = X := ⟨_, rfl⟩
  obtain ⟨Y, hY⟩ : ∃ Y, readE D 0 8 = Y := ⟨_, rfl⟩
  obtain ⟨Z, hZ⟩ : ∃ Z, (waitingK D 1 : Int) = Z := ⟨_, rfl⟩
  rw [hX, hY] at kr
  rw [hZ] at kw
  clear hX hY hZ H0 H1 HX HS1
  go_wp2_with (first
    | (go_at_call 17; (with_reducible refine (kr H2.out).mono ?_); rintro e w3 ⟨rfl, h3⟩; have H3 := Lib.hid h3; clear h3 H2)
    | (go_at_call 29; (with_reducible refine (kw H3.out).mono ?_); rintro e w4 ⟨rfl, h4⟩; have H4 := Lib.hid h4; clear h4 H3)
    | (go_at_call 30; refine (H4.out.run A2 len2 cap2 ys HY.out (by omega) (by omega) HS2.out).mono ?_; rintro e w5 ⟨rfl, E5, h5⟩; have H5 := Lib.hid h5; clear h5 H4)
    | (go_at_call 19; refine (H5.out.cut (by omega)).mono ?_; rintro e w6 ⟨rfl, h6⟩; have H6 := Lib.hid h6; clear h6 H5)
    | (go_at_call 17; (with_reducible refine (kr H6.out).mono ?_); rintro e w7 ⟨rfl, h7⟩; have H7 := Lib.hid h7; clear h7 H6)
    | (go_at_call 12; refine (alive_any _).mono ?_; rintro e w8 ⟨rfl, hz⟩; have H8 := Lib.hid (H7.out.then_ hz); clear hz H7)
    | (go_at_call 29; (with_reducible refine (kw H8.out).mono ?_); rintro e w9 ⟨rfl, h9⟩; have H9 := Lib.hid h9; clear h9 H8)
    | (go_at_call 26; refine (own_on H9.out.t).mono ?_; rintro e wa ⟨rfl, rfl⟩; rw [cut_off_on]))
  go_ret
  exact ⟨ret_bool (by first | rfl | simp), H9.out.bel⟩
set_option maxHeartbeats 4000000 in
set_option maxRecDepth 100000 in
theorem walk (A : Option Addr) (len cap : Nat) (xs : List OpR) (A2 : Option Addr) (len2 cap2 : Nat) (ys : List OpR) (w : World) (hx : OpsIs w A len cap xs) (hy : OpsIs w A2 len2 cap2 ys) :
    Calls Try.prog 10 #[.slice A len cap, .slice A2 len2 cap2] w fun e w' => e = .returned (.bool true) ∧ Below w.heap.size w w' := by
  by_cases hlen : len ≤ 40
  · by_cases hlen2 : len2 ≤ 40
    · exact walk_in A len cap xs A2 len2 cap2 ys w hlen hlen2 hx hy
    · have b2 : decide ((40 : Int) < (len : Int)) = false := by simp; omega
      have b3 : decide ((40 : Int) < (len2 : Int)) = true := by simp; omega
      have kl1 := light_any w A len cap xs hx
      have kl2 := fun (W : World) (hb : Below w.heap.size w W) => light_any W A2 len2 cap2 ys (hy.old hb)
      have HL2 := Lib.hid kl2
      have l1 := hx.1
      have l2 := hy.1
      have l3 := hx.2.1
      have l4 := hy.2.1
      unfold maxLen at l3 l4
      clear hx hy kl2
      go_enter Try.func10, Try.ntmps10
      go_wp2_with (first
        | (go_at_call 27; (with_reducible refine kl1.mono ?_); rintro e wl ⟨q, rfl, hq, hbl⟩; clear kl1; cases q; (go_wp2_with (go_at_call 12; refine (alive_any _).mono ?_; rintro e wz ⟨rfl, hz⟩); go_ret; exact ⟨rfl, hbl.trans (hz.mono hbl.size)⟩))
        | (go_at_call 27; refine (HL2.out _ hbl).mono ?_; rintro e wl2 ⟨q, rfl, hq2, hbl2⟩; clear HL2; have hbw := hbl.trans (hbl2.mono hbl.size); cases q; (go_wp2_with (go_at_call 12; refine (alive_any _).mono ?_; rintro e wz ⟨rfl, hz⟩); go_ret; exact ⟨rfl, hbw.trans (hz.mono hbw.size)⟩))
        | (go_at_call 12; refine (alive_any _).mono ?_; rintro e wz ⟨rfl, hz⟩))
      go_ret
      exact ⟨rfl, hbw.trans (hz.mono hbw.size)⟩
  · have b2 : decide ((40 : Int) < (len : Int)) = true := by simp; omega
    have kl1 := light_any w A len cap xs hx
    have kl2 := fun (W : World) (hb : Below w.heap.size w W) => light_any W A2 len2 cap2 ys (hy.old hb)
    have HL2 := Lib.hid kl2
    have l1 := hx.1
    have l2 := hy.1
    have l3 := hx.2.1
    have l4 := hy.2.1
    unfold maxLen at l3 l4
    clear hx hy kl2
    go_enter Try.func10, Try.ntmps10
    go_wp2_with (first
      | (go_at_call 27; (with_reducible refine kl1.mono ?_); rintro e wl ⟨q, rfl, hq, hbl⟩; clear kl1; cases q; (go_wp2_with (go_at_call 12; refine (alive_any _).mono ?_; rintro e wz ⟨rfl, hz⟩); go_ret; exact ⟨rfl, hbl.trans (hz.mono hbl.size)⟩))
      | (go_at_call 27; refine (HL2.out _ hbl).mono ?_; rintro e wl2 ⟨q, rfl, hq2, hbl2⟩; clear HL2; have hbw := hbl.trans (hbl2.mono hbl.size); cases q; (go_wp2_with (go_at_call 12; refine (alive_any _).mono ?_; rintro e wz ⟨rfl, hz⟩); go_ret; exact ⟨rfl, hbw.trans (hz.mono hbw.size)⟩))
      | (go_at_call 12; refine (alive_any _).mono ?_; rintro e wz ⟨rfl, hz⟩))
    go_ret
    exact ⟨rfl, hbw.trans (hz.mono hbw.size)⟩
end Go.Proofs.Ytlnomfaaldjnpaa.diskTwice
