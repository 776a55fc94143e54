/- LogRefuses: a transaction that may not be, is too big, or has no room, is refused, and changes nothing. No condition. -/
import Derived.Test.YtakilnpfhljgfaaGreatM4
namespace Go.Proofs.YtakilnpfhljgfaaGreat.WL
set_option maxRecDepth 100000
open Go.RowKit Go.Proofs.YtakilnpfhljgfaaGreat.MI Go.Proofs.YtakilnpfhljgfaaGreat.WI Go.Proofs.YtakilnpfhljgfaaGreat.SM Go.Proofs.YtakilnpfhljgfaaGreat.DK Go.Proofs.YtakilnpfhljgfaaGreat.SU Go.Proofs.YtakilnpfhljgfaaGreat.BK
set_option linter.unusedVariables false
set_option linter.unusedSimpArgs false

theorem bit_one (x : Int) : ∃ K : Nat, K ≤ 1 ∧ bits BinOp.and IntKind.i64 x 1 = (K : Int) := by
  have h : 0 ≤ bits .and .i64 x 1 ∧ bits .and .i64 x 1 ≤ 1 := bits_low x 1 1 (by omega) (by omega)
  exact ⟨(bits .and .i64 x 1).toNat, by omega, by omega⟩
set_option maxHeartbeats 8000000 in
theorem core_ok (w : World) (n : Int) (A : Option Addr) (m c K : Nat) (hK : bits BinOp.and IntKind.i64 n 1 = (K : Int)) (hK1 : K ≤ 1) (N1 : Nat) (D0 : Dk) (N0 : Nat) (S S' : Lg) (v nx us pd nx' us' pd' : Int) (hnx : nx + 1 ≤ 1000000 ∧ 0 ≤ nx) (hpd : 0 ≤ pd ∧ pd ≤ 1000) {T1 : ByteArray} (hv : nx = v) (hn2 : nx' = nx + 1) (hu2 : us < us') (hp2 : pd' = pd + 1)
    (kl : Calls Tryz.prog 6 #[.int .i64 70, .int .i64 9000, .slice A m c] w fun e w' => e = .returned (.bool true) ∧ Below w.heap.size w w')
    (kr : ∀ W, Below w.heap.size w W → Calls Tryz.prog 8 #[] W fun e w' => ∃ d r, e = .returned (.tuple #[.pointer (some ⟨d, 0, none⟩), .pointer (some ⟨r, 0, none⟩), .agg #[.int .i64 2, .int .i64 10, .int .i64 8, .int .i64 4, .int .i64 32], .bool true]) ∧ OwnL w d N0 D0 [] w')
    (ko : ∀ (W : World) (d : Nat) (bl : List (Nat × TypeId × Array Value)), OwnL w d N0 D0 bl W → Calls Tryz.prog 9 #[.pointer (some ⟨d, 0, none⟩), .agg #[.int .i64 2, .int .i64 10, .int .i64 8, .int .i64 4, .int .i64 32], .int .i64 1, .int .u64 9] W fun e w' => ∃ g q, e = .returned (.tuple #[.pointer (some ⟨g, 0, none⟩), .int .i64 0]) ∧ LogAt w g d q N1 L0 bl w')
    (k1 : ∀ W, Calls Tryz.prog 11 #[.int .i64 1, .int .u64 1] W fun x w' => x = .returned (.agg #[.int .i64 1, .int .u64 1, .string T1]) ∧ Below W.heap.size W w')
    (ka : ∀ (W : World) (g d q : Nat) (bl : List (Nat × TypeId × Array Value)), K = 1 → LogAt w g d q N1 L0 bl W → Calls Tryz.prog 10 #[.pointer (some ⟨g, 0, none⟩), .slice (some ⟨W.heap.size, 0, none⟩) 1 1] (W.alloc (.cells #[.int .i64 1, .int .u64 1, .string T1] RC.TIm)) fun e w' => e = .returned (.tuple #[.int .u64 1, .int .i64 0]) ∧ LogAt w g d q N1 S bl w')
    (h0 : K = 0 → S = L0)
    (kn : ∀ (W : World) (g d q : Nat) (bl : List (Nat × TypeId × Array Value)), LogAt w g d q N1 S bl W → Calls Tryz.prog 12 #[.pointer (some ⟨g, 0, none⟩)] W fun e w' => e = .returned (.int .u64 nx) ∧ W = w')
    (ku : ∀ (W : World) (g d q : Nat) (bl : List (Nat × TypeId × Array Value)), LogAt w g d q N1 S bl W → Calls Tryz.prog 13 #[.pointer (some ⟨g, 0, none⟩)] W fun e w' => e = .returned (.int .i64 us) ∧ LogAt w g d q N1 S bl w')
    (kp : ∀ (W : World) (g d q : Nat) (bl : List (Nat × TypeId × Array Value)), LogAt w g d q N1 S bl W → Calls Tryz.prog 14 #[.pointer (some ⟨g, 0, none⟩)] W fun e w' => e = .returned (.int .i64 pd) ∧ LogAt w g d q N1 S bl w')
    (kb : ∀ (W : World) (g d q : Nat) (bl : List (Nat × TypeId × Array Value)), LogAt w g d q N1 S bl W → Calls Tryz.prog 10 #[.pointer (some ⟨g, 0, none⟩), .slice A m c] W fun e w' => e = .returned (.tuple #[.int .u64 v, .int .i64 0]) ∧ LogAt w g d q N1 S' bl w')
    (kn' : ∀ (W : World) (g d q : Nat) (bl : List (Nat × TypeId × Array Value)), LogAt w g d q N1 S' bl W → Calls Tryz.prog 12 #[.pointer (some ⟨g, 0, none⟩)] W fun e w' => e = .returned (.int .u64 nx') ∧ W = w')
    (ku' : ∀ (W : World) (g d q : Nat) (bl : List (Nat × TypeId × Array Value)), LogAt w g d q N1 S' bl W → Calls Tryz.prog 13 #[.pointer (some ⟨g, 0, none⟩)] W fun e w' => e = .returned (.int .i64 us') ∧ LogAt w g d q N1 S' bl w')
    (kp' : ∀ (W : World) (g d q : Nat) (bl : List (Nat × TypeId × Array Value)), LogAt w g d q N1 S' bl W → Calls Tryz.prog 14 #[.pointer (some ⟨g, 0, none⟩)] W fun e w' => e = .returned (.int .i64 pd') ∧ LogAt w g d q N1 S' bl w')
    (kk' : ∀ (W : World) (g d q : Nat) (bl : List (Nat × TypeId × Array Value)), LogAt w g d q N1 S' bl W → Calls Tryz.prog 15 #[.pointer (some ⟨g, 0, none⟩)] W fun e w' => e = .returned (.bool false) ∧ W = w')
    (kal : ∀ W, Calls Tryz.prog 7 #[] W fun e w' => e = .returned (.bool true) ∧ Below W.heap.size W w') :
    Calls Tryz.prog 3 #[.slice A m c, .int .i64 n] w (AQuiet w) := by
  have KR := Lib.hid kr
  have KO := Lib.hid ko
  have KA := Lib.hid ka
  have KN := Lib.hid kn
  have KU := Lib.hid ku
  have KP := Lib.hid kp
  have KB := Lib.hid kb
  have KN' := Lib.hid kn'
  have KU' := Lib.hid ku'
  have KP' := Lib.hid kp'
  have KK' := Lib.hid kk'
  have HS0 := Lib.hid h0
  clear kr ko ka kn ku kp kb kn' ku' kp' kk' h0
  generalize L0 = S0 at *
  go_enter Tryz.func3, Tryz.ntmps3
  go_upto_region 4 with (first
    | (go_at_call 6; refine kl.mono ?_; rintro x w0 ⟨rfl, hb⟩; have HB0 := Lib.hid hb; clear hb kl)
    | (go_at_call 8; refine (KR.out _ HB0.out).mono ?_; rintro x w1 ⟨d, r, rfl, ho⟩; have H1 := Lib.hid ho; clear ho))
  have h2 := H1.out.beside TLa #[.int .i64 2, .int .i64 10, .int .i64 8, .int .i64 4, .int .i64 32]
  obtain ⟨W2, hW2⟩ : ∃ W2, w1.alloc (.cells #[.int .i64 2, .int .i64 10, .int .i64 8, .int .i64 4, .int .i64 32] TLa) = W2 := ⟨_, rfl⟩
  rw [hW2] at h2 ⊢
  obtain ⟨x3, hx3⟩ : ∃ x, w1.heap.size = x := ⟨_, rfl⟩
  rw [hx3] at h2 ⊢
  have c0 : W2.cell? ⟨x3, 0, none⟩ = some (.int .i64 2) := h2.b0.cell 0
  have c1 : W2.cell? ⟨x3, 1, none⟩ = some (.int .i64 10) := h2.b0.cell 1
  have c2 : W2.cell? ⟨x3, 2, none⟩ = some (.int .i64 8) := h2.b0.cell 2
  have c3 : W2.cell? ⟨x3, 3, none⟩ = some (.int .i64 4) := h2.b0.cell 3
  have c4 : W2.cell? ⟨x3, 4, none⟩ = some (.int .i64 32) := h2.b0.cell 4
  have H2 := Lib.hid h2
  clear h2 hW2 hx3 H1
  go_upto_region 9 with (go_at_call 9; refine (KO.out _ _ _ H2.out).mono ?_; rintro x w3 ⟨g, q, rfl, h3⟩; have H3 := Lib.hid h3; clear h3)
  clear c0 c1 c2 c3 c4
  go_wp2_with fail
  go_loopw [11] (fun i wr => ∃ k : Nat, k ≤ K ∧ i = .int .i64 (k : Int) ∧ Hid (LogAt w g d q N1 (if k = 0 then S0 else S) [(x3, TLa, #[.int .i64 2, .int .i64 10, .int .i64 8, .int .i64 4, .int .i64 32])] wr)) (fun i _ => K - (intOf i).toNat)
  case atStart => exact ⟨0, by omega, rfl, Lib.hid (by rw [if_pos rfl]; exact H3.out)⟩
  case round =>
    obtain ⟨k, hk, rfl, H⟩ := hrel
    by_cases hlt : k < K
    · obtain rfl : k = 0 := by omega
      obtain rfl : K = 1 := by omega
      have h4 : LogAt w g d q N1 S0 [(x3, TLa, #[.int .i64 2, .int .i64 10, .int .i64 8, .int .i64 4, .int .i64 32])] wr := by have := H.out; rw [if_pos rfl] at this; exact this
      have H4 := Lib.hid h4
      clear h4 H
      go_wp2_with (first
        | (go_at_call 11; refine (k1 _).mono ?_; rintro x w4 ⟨rfl, hb⟩; have H5 := Lib.hid (H4.out.then_ hb); clear hb)
        | (go_at_call 10; refine (KA.out _ _ _ _ _ (by trivial) H5.out).mono ?_; rintro x w5 ⟨rfl, h5⟩; have H6 := Lib.hid h5; clear h5))
      go_roundw
      case rel => exact ⟨1, by omega, rfl, Lib.hid (by rw [if_neg (by decide)]; exact H6.out)⟩
      case measure => simp [intOf]
    · obtain rfl : k = K := by omega
      have h4 : LogAt w g d q N1 S [(x3, TLa, #[.int .i64 2, .int .i64 10, .int .i64 8, .int .i64 4, .int .i64 32])] wr := by
        have := H.out
        by_cases hz : k = 0
        · rw [if_pos hz] at this; rw [HS0.out hz]; exact this
        · rw [if_neg hz] at this; exact this
      have H4 := Lib.hid h4
      clear h4 H
      go_upto_region 14 with (first
        | (go_at_call 12; refine (KN.out _ _ _ _ _ H4.out).mono ?_; rintro x wn ⟨rfl, rfl⟩)
        | (go_at_call 13; refine (KU.out _ _ _ _ _ H4.out).mono ?_; rintro x w6 ⟨rfl, h6⟩; have H6 := Lib.hid h6; clear h6)
        | (go_at_call 14; refine (KP.out _ _ _ _ _ H6.out).mono ?_; rintro x w7 ⟨rfl, h7⟩; have H7 := Lib.hid h7; clear h7))
      go_upto_region 15 with (go_at_call 10; refine (KB.out _ _ _ _ _ H7.out).mono ?_; rintro x w8 ⟨rfl, h8⟩; have H8 := Lib.hid h8; clear h8)
      subst hv hn2 hp2
      have e1 : IntKind.u64.wrap (nx + 1) = nx + 1 := IntWalk.u64_in _ (by omega)
      have e2 : IntKind.i64.wrap (pd + 1) = pd + 1 := IntWalk.i64_in _ (by omega)
      go_wp2_with (first
        | (go_at_call 7; refine (kal _).mono ?_; rintro x w9 ⟨rfl, hb⟩; have H9 := Lib.hid (H8.out.then_ hb); clear hb)
        | (go_at_call 12; refine (KN'.out _ _ _ _ _ H9.out).mono ?_; rintro x wn ⟨rfl, rfl⟩)
        | (go_at_call 13; refine (KU'.out _ _ _ _ _ H9.out).mono ?_; rintro x w10 ⟨rfl, h10⟩; have H10 := Lib.hid h10; clear h10)
        | (go_at_call 14; refine (KP'.out _ _ _ _ _ H10.out).mono ?_; rintro x w11 ⟨rfl, h11⟩; have H11 := Lib.hid h11; clear h11))
      exact end_ret (t := 4) (v := .bool true) (by kernel_rfl) rfl rfl ⟨rfl, H11.out.bel⟩
set_option maxHeartbeats 8000000 in
theorem core_bad1 (w : World) (n : Int) (A : Option Addr) (m c K : Nat) (hK : bits BinOp.and IntKind.i64 n 1 = (K : Int)) (hK1 : K ≤ 1) (N1 : Nat) (D0 : Dk) (N0 : Nat) (S S' : Lg) (v nx us pd nx' us' pd' : Int) (hnx : nx + 1 ≤ 1000000 ∧ 0 ≤ nx) (hpd : 0 ≤ pd ∧ pd ≤ 1000) {T1 : ByteArray} (hv : v = 0) (hn2 : nx' = nx) (hu2 : us' = us) (hp2 : pd' = pd)
    (kl : Calls Tryz.prog 6 #[.int .i64 70, .int .i64 9000, .slice A m c] w fun e w' => e = .returned (.bool true) ∧ Below w.heap.size w w')
    (kr : ∀ W, Below w.heap.size w W → Calls Tryz.prog 8 #[] W fun e w' => ∃ d r, e = .returned (.tuple #[.pointer (some ⟨d, 0, none⟩), .pointer (some ⟨r, 0, none⟩), .agg #[.int .i64 2, .int .i64 10, .int .i64 8, .int .i64 4, .int .i64 32], .bool true]) ∧ OwnL w d N0 D0 [] w')
    (ko : ∀ (W : World) (d : Nat) (bl : List (Nat × TypeId × Array Value)), OwnL w d N0 D0 bl W → Calls Tryz.prog 9 #[.pointer (some ⟨d, 0, none⟩), .agg #[.int .i64 2, .int .i64 10, .int .i64 8, .int .i64 4, .int .i64 32], .int .i64 1, .int .u64 9] W fun e w' => ∃ g q, e = .returned (.tuple #[.pointer (some ⟨g, 0, none⟩), .int .i64 0]) ∧ LogAt w g d q N1 L0 bl w')
    (k1 : ∀ W, Calls Tryz.prog 11 #[.int .i64 1, .int .u64 1] W fun x w' => x = .returned (.agg #[.int .i64 1, .int .u64 1, .string T1]) ∧ Below W.heap.size W w')
    (ka : ∀ (W : World) (g d q : Nat) (bl : List (Nat × TypeId × Array Value)), K = 1 → LogAt w g d q N1 L0 bl W → Calls Tryz.prog 10 #[.pointer (some ⟨g, 0, none⟩), .slice (some ⟨W.heap.size, 0, none⟩) 1 1] (W.alloc (.cells #[.int .i64 1, .int .u64 1, .string T1] RC.TIm)) fun e w' => e = .returned (.tuple #[.int .u64 1, .int .i64 0]) ∧ LogAt w g d q N1 S bl w')
    (h0 : K = 0 → S = L0)
    (kn : ∀ (W : World) (g d q : Nat) (bl : List (Nat × TypeId × Array Value)), LogAt w g d q N1 S bl W → Calls Tryz.prog 12 #[.pointer (some ⟨g, 0, none⟩)] W fun e w' => e = .returned (.int .u64 nx) ∧ W = w')
    (ku : ∀ (W : World) (g d q : Nat) (bl : List (Nat × TypeId × Array Value)), LogAt w g d q N1 S bl W → Calls Tryz.prog 13 #[.pointer (some ⟨g, 0, none⟩)] W fun e w' => e = .returned (.int .i64 us) ∧ LogAt w g d q N1 S bl w')
    (kp : ∀ (W : World) (g d q : Nat) (bl : List (Nat × TypeId × Array Value)), LogAt w g d q N1 S bl W → Calls Tryz.prog 14 #[.pointer (some ⟨g, 0, none⟩)] W fun e w' => e = .returned (.int .i64 pd) ∧ LogAt w g d q N1 S bl w')
    (kb : ∀ (W : World) (g d q : Nat) (bl : List (Nat × TypeId × Array Value)), LogAt w g d q N1 S bl W → Calls Tryz.prog 10 #[.pointer (some ⟨g, 0, none⟩), .slice A m c] W fun e w' => e = .returned (.tuple #[.int .u64 v, .int .i64 1]) ∧ LogAt w g d q N1 S' bl w')
    (kn' : ∀ (W : World) (g d q : Nat) (bl : List (Nat × TypeId × Array Value)), LogAt w g d q N1 S' bl W → Calls Tryz.prog 12 #[.pointer (some ⟨g, 0, none⟩)] W fun e w' => e = .returned (.int .u64 nx') ∧ W = w')
    (ku' : ∀ (W : World) (g d q : Nat) (bl : List (Nat × TypeId × Array Value)), LogAt w g d q N1 S' bl W → Calls Tryz.prog 13 #[.pointer (some ⟨g, 0, none⟩)] W fun e w' => e = .returned (.int .i64 us') ∧ LogAt w g d q N1 S' bl w')
    (kp' : ∀ (W : World) (g d q : Nat) (bl : List (Nat × TypeId × Array Value)), LogAt w g d q N1 S' bl W → Calls Tryz.prog 14 #[.pointer (some ⟨g, 0, none⟩)] W fun e w' => e = .returned (.int .i64 pd') ∧ LogAt w g d q N1 S' bl w')
    (kk' : ∀ (W : World) (g d q : Nat) (bl : List (Nat × TypeId × Array Value)), LogAt w g d q N1 S' bl W → Calls Tryz.prog 15 #[.pointer (some ⟨g, 0, none⟩)] W fun e w' => e = .returned (.bool false) ∧ W = w')
    (kal : ∀ W, Calls Tryz.prog 7 #[] W fun e w' => e = .returned (.bool true) ∧ Below W.heap.size W w') :
    Calls Tryz.prog 3 #[.slice A m c, .int .i64 n] w (AQuiet w) := by
  have KR := Lib.hid kr
  have KO := Lib.hid ko
  have KA := Lib.hid ka
  have KN := Lib.hid kn
  have KU := Lib.hid ku
  have KP := Lib.hid kp
  have KB := Lib.hid kb
  have KN' := Lib.hid kn'
  have KU' := Lib.hid ku'
  have KP' := Lib.hid kp'
  have KK' := Lib.hid kk'
  have HS0 := Lib.hid h0
  clear kr ko ka kn ku kp kb kn' ku' kp' kk' h0
  generalize L0 = S0 at *
  go_enter Tryz.func3, Tryz.ntmps3
  go_upto_region 4 with (first
    | (go_at_call 6; refine kl.mono ?_; rintro x w0 ⟨rfl, hb⟩; have HB0 := Lib.hid hb; clear hb kl)
    | (go_at_call 8; refine (KR.out _ HB0.out).mono ?_; rintro x w1 ⟨d, r, rfl, ho⟩; have H1 := Lib.hid ho; clear ho))
  have h2 := H1.out.beside TLa #[.int .i64 2, .int .i64 10, .int .i64 8, .int .i64 4, .int .i64 32]
  obtain ⟨W2, hW2⟩ : ∃ W2, w1.alloc (.cells #[.int .i64 2, .int .i64 10, .int .i64 8, .int .i64 4, .int .i64 32] TLa) = W2 := ⟨_, rfl⟩
  rw [hW2] at h2 ⊢
  obtain ⟨x3, hx3⟩ : ∃ x, w1.heap.size = x := ⟨_, rfl⟩
  rw [hx3] at h2 ⊢
  have c0 : W2.cell? ⟨x3, 0, none⟩ = some (.int .i64 2) := h2.b0.cell 0
  have c1 : W2.cell? ⟨x3, 1, none⟩ = some (.int .i64 10) := h2.b0.cell 1
  have c2 : W2.cell? ⟨x3, 2, none⟩ = some (.int .i64 8) := h2.b0.cell 2
  have c3 : W2.cell? ⟨x3, 3, none⟩ = some (.int .i64 4) := h2.b0.cell 3
  have c4 : W2.cell? ⟨x3, 4, none⟩ = some (.int .i64 32) := h2.b0.cell 4
  have H2 := Lib.hid h2
  clear h2 hW2 hx3 H1
  go_upto_region 9 with (go_at_call 9; refine (KO.out _ _ _ H2.out).mono ?_; rintro x w3 ⟨g, q, rfl, h3⟩; have H3 := Lib.hid h3; clear h3)
  clear c0 c1 c2 c3 c4
  go_wp2_with fail
  go_loopw [11] (fun i wr => ∃ k : Nat, k ≤ K ∧ i = .int .i64 (k : Int) ∧ Hid (LogAt w g d q N1 (if k = 0 then S0 else S) [(x3, TLa, #[.int .i64 2, .int .i64 10, .int .i64 8, .int .i64 4, .int .i64 32])] wr)) (fun i _ => K - (intOf i).toNat)
  case atStart => exact ⟨0, by omega, rfl, Lib.hid (by rw [if_pos rfl]; exact H3.out)⟩
  case round =>
    obtain ⟨k, hk, rfl, H⟩ := hrel
    by_cases hlt : k < K
    · obtain rfl : k = 0 := by omega
      obtain rfl : K = 1 := by omega
      have h4 : LogAt w g d q N1 S0 [(x3, TLa, #[.int .i64 2, .int .i64 10, .int .i64 8, .int .i64 4, .int .i64 32])] wr := by have := H.out; rw [if_pos rfl] at this; exact this
      have H4 := Lib.hid h4
      clear h4 H
      go_wp2_with (first
        | (go_at_call 11; refine (k1 _).mono ?_; rintro x w4 ⟨rfl, hb⟩; have H5 := Lib.hid (H4.out.then_ hb); clear hb)
        | (go_at_call 10; refine (KA.out _ _ _ _ _ (by trivial) H5.out).mono ?_; rintro x w5 ⟨rfl, h5⟩; have H6 := Lib.hid h5; clear h5))
      go_roundw
      case rel => exact ⟨1, by omega, rfl, Lib.hid (by rw [if_neg (by decide)]; exact H6.out)⟩
      case measure => simp [intOf]
    · obtain rfl : k = K := by omega
      have h4 : LogAt w g d q N1 S [(x3, TLa, #[.int .i64 2, .int .i64 10, .int .i64 8, .int .i64 4, .int .i64 32])] wr := by
        have := H.out
        by_cases hz : k = 0
        · rw [if_pos hz] at this; rw [HS0.out hz]; exact this
        · rw [if_neg hz] at this; exact this
      have H4 := Lib.hid h4
      clear h4 H
      go_upto_region 14 with (first
        | (go_at_call 12; refine (KN.out _ _ _ _ _ H4.out).mono ?_; rintro x wn ⟨rfl, rfl⟩)
        | (go_at_call 13; refine (KU.out _ _ _ _ _ H4.out).mono ?_; rintro x w6 ⟨rfl, h6⟩; have H6 := Lib.hid h6; clear h6)
        | (go_at_call 14; refine (KP.out _ _ _ _ _ H6.out).mono ?_; rintro x w7 ⟨rfl, h7⟩; have H7 := Lib.hid h7; clear h7))
      go_upto_region 15 with (go_at_call 10; refine (KB.out _ _ _ _ _ H7.out).mono ?_; rintro x w8 ⟨rfl, h8⟩; have H8 := Lib.hid h8; clear h8)
      subst hv hn2 hu2 hp2
      go_wp2_with (first
        | (go_at_call 7; refine (kal _).mono ?_; rintro x w9 ⟨rfl, hb⟩; have H9 := Lib.hid (H8.out.then_ hb); clear hb)
        | (go_at_call 12; refine (KN'.out _ _ _ _ _ H9.out).mono ?_; rintro x wn ⟨rfl, rfl⟩)
        | (go_at_call 13; refine (KU'.out _ _ _ _ _ H9.out).mono ?_; rintro x w10 ⟨rfl, h10⟩; have H10 := Lib.hid h10; clear h10)
        | (go_at_call 14; refine (KP'.out _ _ _ _ _ H10.out).mono ?_; rintro x w11 ⟨rfl, h11⟩; have H11 := Lib.hid h11; clear h11)
        | (go_at_call 15; refine (KK'.out _ _ _ _ _ H11.out).mono ?_; rintro x wn ⟨rfl, rfl⟩))
      exact end_ret (t := 4) (v := .bool true) (by kernel_rfl) rfl rfl ⟨rfl, H11.out.bel⟩
set_option maxHeartbeats 8000000 in
theorem core_bad2 (w : World) (n : Int) (A : Option Addr) (m c K : Nat) (hK : bits BinOp.and IntKind.i64 n 1 = (K : Int)) (hK1 : K ≤ 1) (N1 : Nat) (D0 : Dk) (N0 : Nat) (S S' : Lg) (v nx us pd nx' us' pd' : Int) (hnx : nx + 1 ≤ 1000000 ∧ 0 ≤ nx) (hpd : 0 ≤ pd ∧ pd ≤ 1000) {T1 : ByteArray} (hv : v = 0) (hn2 : nx' = nx) (hu2 : us' = us) (hp2 : pd' = pd)
    (kl : Calls Tryz.prog 6 #[.int .i64 70, .int .i64 9000, .slice A m c] w fun e w' => e = .returned (.bool true) ∧ Below w.heap.size w w')
    (kr : ∀ W, Below w.heap.size w W → Calls Tryz.prog 8 #[] W fun e w' => ∃ d r, e = .returned (.tuple #[.pointer (some ⟨d, 0, none⟩), .pointer (some ⟨r, 0, none⟩), .agg #[.int .i64 2, .int .i64 10, .int .i64 8, .int .i64 4, .int .i64 32], .bool true]) ∧ OwnL w d N0 D0 [] w')
    (ko : ∀ (W : World) (d : Nat) (bl : List (Nat × TypeId × Array Value)), OwnL w d N0 D0 bl W → Calls Tryz.prog 9 #[.pointer (some ⟨d, 0, none⟩), .agg #[.int .i64 2, .int .i64 10, .int .i64 8, .int .i64 4, .int .i64 32], .int .i64 1, .int .u64 9] W fun e w' => ∃ g q, e = .returned (.tuple #[.pointer (some ⟨g, 0, none⟩), .int .i64 0]) ∧ LogAt w g d q N1 L0 bl w')
    (k1 : ∀ W, Calls Tryz.prog 11 #[.int .i64 1, .int .u64 1] W fun x w' => x = .returned (.agg #[.int .i64 1, .int .u64 1, .string T1]) ∧ Below W.heap.size W w')
    (ka : ∀ (W : World) (g d q : Nat) (bl : List (Nat × TypeId × Array Value)), K = 1 → LogAt w g d q N1 L0 bl W → Calls Tryz.prog 10 #[.pointer (some ⟨g, 0, none⟩), .slice (some ⟨W.heap.size, 0, none⟩) 1 1] (W.alloc (.cells #[.int .i64 1, .int .u64 1, .string T1] RC.TIm)) fun e w' => e = .returned (.tuple #[.int .u64 1, .int .i64 0]) ∧ LogAt w g d q N1 S bl w')
    (h0 : K = 0 → S = L0)
    (kn : ∀ (W : World) (g d q : Nat) (bl : List (Nat × TypeId × Array Value)), LogAt w g d q N1 S bl W → Calls Tryz.prog 12 #[.pointer (some ⟨g, 0, none⟩)] W fun e w' => e = .returned (.int .u64 nx) ∧ W = w')
    (ku : ∀ (W : World) (g d q : Nat) (bl : List (Nat × TypeId × Array Value)), LogAt w g d q N1 S bl W → Calls Tryz.prog 13 #[.pointer (some ⟨g, 0, none⟩)] W fun e w' => e = .returned (.int .i64 us) ∧ LogAt w g d q N1 S bl w')
    (kp : ∀ (W : World) (g d q : Nat) (bl : List (Nat × TypeId × Array Value)), LogAt w g d q N1 S bl W → Calls Tryz.prog 14 #[.pointer (some ⟨g, 0, none⟩)] W fun e w' => e = .returned (.int .i64 pd) ∧ LogAt w g d q N1 S bl w')
    (kb : ∀ (W : World) (g d q : Nat) (bl : List (Nat × TypeId × Array Value)), LogAt w g d q N1 S bl W → Calls Tryz.prog 10 #[.pointer (some ⟨g, 0, none⟩), .slice A m c] W fun e w' => e = .returned (.tuple #[.int .u64 v, .int .i64 2]) ∧ LogAt w g d q N1 S' bl w')
    (kn' : ∀ (W : World) (g d q : Nat) (bl : List (Nat × TypeId × Array Value)), LogAt w g d q N1 S' bl W → Calls Tryz.prog 12 #[.pointer (some ⟨g, 0, none⟩)] W fun e w' => e = .returned (.int .u64 nx') ∧ W = w')
    (ku' : ∀ (W : World) (g d q : Nat) (bl : List (Nat × TypeId × Array Value)), LogAt w g d q N1 S' bl W → Calls Tryz.prog 13 #[.pointer (some ⟨g, 0, none⟩)] W fun e w' => e = .returned (.int .i64 us') ∧ LogAt w g d q N1 S' bl w')
    (kp' : ∀ (W : World) (g d q : Nat) (bl : List (Nat × TypeId × Array Value)), LogAt w g d q N1 S' bl W → Calls Tryz.prog 14 #[.pointer (some ⟨g, 0, none⟩)] W fun e w' => e = .returned (.int .i64 pd') ∧ LogAt w g d q N1 S' bl w')
    (kk' : ∀ (W : World) (g d q : Nat) (bl : List (Nat × TypeId × Array Value)), LogAt w g d q N1 S' bl W → Calls Tryz.prog 15 #[.pointer (some ⟨g, 0, none⟩)] W fun e w' => e = .returned (.bool false) ∧ W = w')
    (kal : ∀ W, Calls Tryz.prog 7 #[] W fun e w' => e = .returned (.bool true) ∧ Below W.heap.size W w') :
    Calls Tryz.prog 3 #[.slice A m c, .int .i64 n] w (AQuiet w) := by
  have KR := Lib.hid kr
  have KO := Lib.hid ko
  have KA := Lib.hid ka
  have KN := Lib.hid kn
  have KU := Lib.hid ku
  have KP := Lib.hid kp
  have KB := Lib.hid kb
  have KN' := Lib.hid kn'
  have KU' := Lib.hid ku'
  have KP' := Lib.hid kp'
  have KK' := Lib.hid kk'
  have HS0 := Lib.hid h0
  clear kr ko ka kn ku kp kb kn' ku' kp' kk' h0
  generalize L0 = S0 at *
  go_enter Tryz.func3, Tryz.ntmps3
  go_upto_region 4 with (first
    | (go_at_call 6; refine kl.mono ?_; rintro x w0 ⟨rfl, hb⟩; have HB0 := Lib.hid hb; clear hb kl)
    | (go_at_call 8; refine (KR.out _ HB0.out).mono ?_; rintro x w1 ⟨d, r, rfl, ho⟩; have H1 := Lib.hid ho; clear ho))
  have h2 := H1.out.beside TLa #[.int .i64 2, .int .i64 10, .int .i64 8, .int .i64 4, .int .i64 32]
  obtain ⟨W2, hW2⟩ : ∃ W2, w1.alloc (.cells #[.int .i64 2, .int .i64 10, .int .i64 8, .int .i64 4, .int .i64 32] TLa) = W2 := ⟨_, rfl⟩
  rw [hW2] at h2 ⊢
  obtain ⟨x3, hx3⟩ : ∃ x, w1.heap.size = x := ⟨_, rfl⟩
  rw [hx3] at h2 ⊢
  have c0 : W2.cell? ⟨x3, 0, none⟩ = some (.int .i64 2) := h2.b0.cell 0
  have c1 : W2.cell? ⟨x3, 1, none⟩ = some (.int .i64 10) := h2.b0.cell 1
  have c2 : W2.cell? ⟨x3, 2, none⟩ = some (.int .i64 8) := h2.b0.cell 2
  have c3 : W2.cell? ⟨x3, 3, none⟩ = some (.int .i64 4) := h2.b0.cell 3
  have c4 : W2.cell? ⟨x3, 4, none⟩ = some (.int .i64 32) := h2.b0.cell 4
  have H2 := Lib.hid h2
  clear h2 hW2 hx3 H1
  go_upto_region 9 with (go_at_call 9; refine (KO.out _ _ _ H2.out).mono ?_; rintro x w3 ⟨g, q, rfl, h3⟩; have H3 := Lib.hid h3; clear h3)
  clear c0 c1 c2 c3 c4
  go_wp2_with fail
  go_loopw [11] (fun i wr => ∃ k : Nat, k ≤ K ∧ i = .int .i64 (k : Int) ∧ Hid (LogAt w g d q N1 (if k = 0 then S0 else S) [(x3, TLa, #[.int .i64 2, .int .i64 10, .int .i64 8, .int .i64 4, .int .i64 32])] wr)) (fun i _ => K - (intOf i).toNat)
  case atStart => exact ⟨0, by omega, rfl, Lib.hid (by rw [if_pos rfl]; exact H3.out)⟩
  case round =>
    obtain ⟨k, hk, rfl, H⟩ := hrel
    by_cases hlt : k < K
    · obtain rfl : k = 0 := by omega
      obtain rfl : K = 1 := by omega
      have h4 : LogAt w g d q N1 S0 [(x3, TLa, #[.int .i64 2, .int .i64 10, .int .i64 8, .int .i64 4, .int .i64 32])] wr := by have := H.out; rw [if_pos rfl] at this; exact this
      have H4 := Lib.hid h4
      clear h4 H
      go_wp2_with (first
        | (go_at_call 11; refine (k1 _).mono ?_; rintro x w4 ⟨rfl, hb⟩; have H5 := Lib.hid (H4.out.then_ hb); clear hb)
        | (go_at_call 10; refine (KA.out _ _ _ _ _ (by trivial) H5.out).mono ?_; rintro x w5 ⟨rfl, h5⟩; have H6 := Lib.hid h5; clear h5))
      go_roundw
      case rel => exact ⟨1, by omega, rfl, Lib.hid (by rw [if_neg (by decide)]; exact H6.out)⟩
      case measure => simp [intOf]
    · obtain rfl : k = K := by omega
      have h4 : LogAt w g d q N1 S [(x3, TLa, #[.int .i64 2, .int .i64 10, .int .i64 8, .int .i64 4, .int .i64 32])] wr := by
        have := H.out
        by_cases hz : k = 0
        · rw [if_pos hz] at this; rw [HS0.out hz]; exact this
        · rw [if_neg hz] at this; exact this
      have H4 := Lib.hid h4
      clear h4 H
      go_upto_region 14 with (first
        | (go_at_call 12; refine (KN.out _ _ _ _ _ H4.out).mono ?_; rintro x wn ⟨rfl, rfl⟩)
        | (go_at_call 13; refine (KU.out _ _ _ _ _ H4.out).mono ?_; rintro x w6 ⟨rfl, h6⟩; have H6 := Lib.hid h6; clear h6)
        | (go_at_call 14; refine (KP.out _ _ _ _ _ H6.out).mono ?_; rintro x w7 ⟨rfl, h7⟩; have H7 := Lib.hid h7; clear h7))
      go_upto_region 15 with (go_at_call 10; refine (KB.out _ _ _ _ _ H7.out).mono ?_; rintro x w8 ⟨rfl, h8⟩; have H8 := Lib.hid h8; clear h8)
      subst hv hn2 hu2 hp2
      go_wp2_with (first
        | (go_at_call 7; refine (kal _).mono ?_; rintro x w9 ⟨rfl, hb⟩; have H9 := Lib.hid (H8.out.then_ hb); clear hb)
        | (go_at_call 12; refine (KN'.out _ _ _ _ _ H9.out).mono ?_; rintro x wn ⟨rfl, rfl⟩)
        | (go_at_call 13; refine (KU'.out _ _ _ _ _ H9.out).mono ?_; rintro x w10 ⟨rfl, h10⟩; have H10 := Lib.hid h10; clear h10)
        | (go_at_call 14; refine (KP'.out _ _ _ _ _ H10.out).mono ?_; rintro x w11 ⟨rfl, h11⟩; have H11 := Lib.hid h11; clear h11)
        | (go_at_call 15; refine (KK'.out _ _ _ _ _ H11.out).mono ?_; rintro x wn ⟨rfl, rfl⟩))
      exact end_ret (t := 4) (v := .bool true) (by kernel_rfl) rfl rfl ⟨rfl, H11.out.bel⟩
set_option maxHeartbeats 8000000 in
theorem core_bad31 (w : World) (n : Int) (A : Option Addr) (m c K : Nat) (hK : bits BinOp.and IntKind.i64 n 1 = (K : Int)) (hK1 : K ≤ 1) (N1 : Nat) (D0 : Dk) (N0 : Nat) (S S' : Lg) (v nx us pd nx' us' pd' : Int) (hnx : nx + 1 ≤ 1000000 ∧ 0 ≤ nx) (hpd : 0 ≤ pd ∧ pd ≤ 1000) {T1 : ByteArray} (hv : v = 0) (hn2 : nx' = nx) (hu2 : us' = us) (hp2 : pd' = pd)
    (kl : Calls Tryz.prog 6 #[.int .i64 70, .int .i64 9000, .slice A m c] w fun e w' => e = .returned (.bool true) ∧ Below w.heap.size w w')
    (kr : ∀ W, Below w.heap.size w W → Calls Tryz.prog 8 #[] W fun e w' => ∃ d r, e = .returned (.tuple #[.pointer (some ⟨d, 0, none⟩), .pointer (some ⟨r, 0, none⟩), .agg #[.int .i64 2, .int .i64 10, .int .i64 8, .int .i64 4, .int .i64 32], .bool true]) ∧ OwnL w d N0 D0 [] w')
    (ko : ∀ (W : World) (d : Nat) (bl : List (Nat × TypeId × Array Value)), OwnL w d N0 D0 bl W → Calls Tryz.prog 9 #[.pointer (some ⟨d, 0, none⟩), .agg #[.int .i64 2, .int .i64 10, .int .i64 8, .int .i64 4, .int .i64 32], .int .i64 1, .int .u64 9] W fun e w' => ∃ g q, e = .returned (.tuple #[.pointer (some ⟨g, 0, none⟩), .int .i64 0]) ∧ LogAt w g d q N1 L0 bl w')
    (k1 : ∀ W, Calls Tryz.prog 11 #[.int .i64 1, .int .u64 1] W fun x w' => x = .returned (.agg #[.int .i64 1, .int .u64 1, .string T1]) ∧ Below W.heap.size W w')
    (ka : ∀ (W : World) (g d q : Nat) (bl : List (Nat × TypeId × Array Value)), K = 1 → LogAt w g d q N1 L0 bl W → Calls Tryz.prog 10 #[.pointer (some ⟨g, 0, none⟩), .slice (some ⟨W.heap.size, 0, none⟩) 1 1] (W.alloc (.cells #[.int .i64 1, .int .u64 1, .string T1] RC.TIm)) fun e w' => e = .returned (.tuple #[.int .u64 1, .int .i64 0]) ∧ LogAt w g d q N1 S bl w')
    (h0 : K = 0 → S = L0)
    (kn : ∀ (W : World) (g d q : Nat) (bl : List (Nat × TypeId × Array Value)), LogAt w g d q N1 S bl W → Calls Tryz.prog 12 #[.pointer (some ⟨g, 0, none⟩)] W fun e w' => e = .returned (.int .u64 nx) ∧ W = w')
    (ku : ∀ (W : World) (g d q : Nat) (bl : List (Nat × TypeId × Array Value)), LogAt w g d q N1 S bl W → Calls Tryz.prog 13 #[.pointer (some ⟨g, 0, none⟩)] W fun e w' => e = .returned (.int .i64 us) ∧ LogAt w g d q N1 S bl w')
    (kp : ∀ (W : World) (g d q : Nat) (bl : List (Nat × TypeId × Array Value)), LogAt w g d q N1 S bl W → Calls Tryz.prog 14 #[.pointer (some ⟨g, 0, none⟩)] W fun e w' => e = .returned (.int .i64 pd) ∧ LogAt w g d q N1 S bl w')
    (kb : ∀ (W : World) (g d q : Nat) (bl : List (Nat × TypeId × Array Value)), LogAt w g d q N1 S bl W → Calls Tryz.prog 10 #[.pointer (some ⟨g, 0, none⟩), .slice A m c] W fun e w' => e = .returned (.tuple #[.int .u64 v, .int .i64 31]) ∧ LogAt w g d q N1 S' bl w')
    (kn' : ∀ (W : World) (g d q : Nat) (bl : List (Nat × TypeId × Array Value)), LogAt w g d q N1 S' bl W → Calls Tryz.prog 12 #[.pointer (some ⟨g, 0, none⟩)] W fun e w' => e = .returned (.int .u64 nx') ∧ W = w')
    (ku' : ∀ (W : World) (g d q : Nat) (bl : List (Nat × TypeId × Array Value)), LogAt w g d q N1 S' bl W → Calls Tryz.prog 13 #[.pointer (some ⟨g, 0, none⟩)] W fun e w' => e = .returned (.int .i64 us') ∧ LogAt w g d q N1 S' bl w')
    (kp' : ∀ (W : World) (g d q : Nat) (bl : List (Nat × TypeId × Array Value)), LogAt w g d q N1 S' bl W → Calls Tryz.prog 14 #[.pointer (some ⟨g, 0, none⟩)] W fun e w' => e = .returned (.int .i64 pd') ∧ LogAt w g d q N1 S' bl w')
    (kk' : ∀ (W : World) (g d q : Nat) (bl : List (Nat × TypeId × Array Value)), LogAt w g d q N1 S' bl W → Calls Tryz.prog 15 #[.pointer (some ⟨g, 0, none⟩)] W fun e w' => e = .returned (.bool false) ∧ W = w')
    (kal : ∀ W, Calls Tryz.prog 7 #[] W fun e w' => e = .returned (.bool true) ∧ Below W.heap.size W w') :
    Calls Tryz.prog 3 #[.slice A m c, .int .i64 n] w (AQuiet w) := by
  have KR := Lib.hid kr
  have KO := Lib.hid ko
  have KA := Lib.hid ka
  have KN := Lib.hid kn
  have KU := Lib.hid ku
  have KP := Lib.hid kp
  have KB := Lib.hid kb
  have KN' := Lib.hid kn'
  have KU' := Lib.hid ku'
  have KP' := Lib.hid kp'
  have KK' := Lib.hid kk'
  have HS0 := Lib.hid h0
  clear kr ko ka kn ku kp kb kn' ku' kp' kk' h0
  generalize L0 = S0 at *
  go_enter Tryz.func3, Tryz.ntmps3
  go_upto_region 4 with (first
    | (go_at_call 6; refine kl.mono ?_; rintro x w0 ⟨rfl, hb⟩; have HB0 := Lib.hid hb; clear hb kl)
    | (go_at_call 8; refine (KR.out _ HB0.out).mono ?_; rintro x w1 ⟨d, r, rfl, ho⟩; have H1 := Lib.hid ho; clear ho))
  have h2 := H1.out.beside TLa #[.int .i64 2, .int .i64 10, .int .i64 8, .int .i64 4, .int .i64 32]
  obtain ⟨W2, hW2⟩ : ∃ W2, w1.alloc (.cells #[.int .i64 2, .int .i64 10, .int .i64 8, .int .i64 4, .int .i64 32] TLa) = W2 := ⟨_, rfl⟩
  rw [hW2] at h2 ⊢
  obtain ⟨x3, hx3⟩ : ∃ x, w1.heap.size = x := ⟨_, rfl⟩
  rw [hx3] at h2 ⊢
  have c0 : W2.cell? ⟨x3, 0, none⟩ = some (.int .i64 2) := h2.b0.cell 0
  have c1 : W2.cell? ⟨x3, 1, none⟩ = some (.int .i64 10) := h2.b0.cell 1
  have c2 : W2.cell? ⟨x3, 2, none⟩ = some (.int .i64 8) := h2.b0.cell 2
  have c3 : W2.cell? ⟨x3, 3, none⟩ = some (.int .i64 4) := h2.b0.cell 3
  have c4 : W2.cell? ⟨x3, 4, none⟩ = some (.int .i64 32) := h2.b0.cell 4
  have H2 := Lib.hid h2
  clear h2 hW2 hx3 H1
  go_upto_region 9 with (go_at_call 9; refine (KO.out _ _ _ H2.out).mono ?_; rintro x w3 ⟨g, q, rfl, h3⟩; have H3 := Lib.hid h3; clear h3)
  clear c0 c1 c2 c3 c4
  go_wp2_with fail
  go_loopw [11] (fun i wr => ∃ k : Nat, k ≤ K ∧ i = .int .i64 (k : Int) ∧ Hid (LogAt w g d q N1 (if k = 0 then S0 else S) [(x3, TLa, #[.int .i64 2, .int .i64 10, .int .i64 8, .int .i64 4, .int .i64 32])] wr)) (fun i _ => K - (intOf i).toNat)
  case atStart => exact ⟨0, by omega, rfl, Lib.hid (by rw [if_pos rfl]; exact H3.out)⟩
  case round =>
    obtain ⟨k, hk, rfl, H⟩ := hrel
    by_cases hlt : k < K
    · obtain rfl : k = 0 := by omega
      obtain rfl : K = 1 := by omega
      have h4 : LogAt w g d q N1 S0 [(x3, TLa, #[.int .i64 2, .int .i64 10, .int .i64 8, .int .i64 4, .int .i64 32])] wr := by have := H.out; rw [if_pos rfl] at this; exact this
      have H4 := Lib.hid h4
      clear h4 H
      go_wp2_with (first
        | (go_at_call 11; refine (k1 _).mono ?_; rintro x w4 ⟨rfl, hb⟩; have H5 := Lib.hid (H4.out.then_ hb); clear hb)
        | (go_at_call 10; refine (KA.out _ _ _ _ _ (by trivial) H5.out).mono ?_; rintro x w5 ⟨rfl, h5⟩; have H6 := Lib.hid h5; clear h5))
      go_roundw
      case rel => exact ⟨1, by omega, rfl, Lib.hid (by rw [if_neg (by decide)]; exact H6.out)⟩
      case measure => simp [intOf]
    · obtain rfl : k = K := by omega
      have h4 : LogAt w g d q N1 S [(x3, TLa, #[.int .i64 2, .int .i64 10, .int .i64 8, .int .i64 4, .int .i64 32])] wr := by
        have := H.out
        by_cases hz : k = 0
        · rw [if_pos hz] at this; rw [HS0.out hz]; exact this
        · rw [if_neg hz] at this; exact this
      have H4 := Lib.hid h4
      clear h4 H
      go_upto_region 14 with (first
        | (go_at_call 12; refine (KN.out _ _ _ _ _ H4.out).mono ?_; rintro x wn ⟨rfl, rfl⟩)
        | (go_at_call 13; refine (KU.out _ _ _ _ _ H4.out).mono ?_; rintro x w6 ⟨rfl, h6⟩; have H6 := Lib.hid h6; clear h6)
        | (go_at_call 14; refine (KP.out _ _ _ _ _ H6.out).mono ?_; rintro x w7 ⟨rfl, h7⟩; have H7 := Lib.hid h7; clear h7))
      go_upto_region 15 with (go_at_call 10; refine (KB.out _ _ _ _ _ H7.out).mono ?_; rintro x w8 ⟨rfl, h8⟩; have H8 := Lib.hid h8; clear h8)
      subst hv hn2 hu2 hp2
      go_wp2_with (first
        | (go_at_call 7; refine (kal _).mono ?_; rintro x w9 ⟨rfl, hb⟩; have H9 := Lib.hid (H8.out.then_ hb); clear hb)
        | (go_at_call 12; refine (KN'.out _ _ _ _ _ H9.out).mono ?_; rintro x wn ⟨rfl, rfl⟩)
        | (go_at_call 13; refine (KU'.out _ _ _ _ _ H9.out).mono ?_; rintro x w10 ⟨rfl, h10⟩; have H10 := Lib.hid h10; clear h10)
        | (go_at_call 14; refine (KP'.out _ _ _ _ _ H10.out).mono ?_; rintro x w11 ⟨rfl, h11⟩; have H11 := Lib.hid h11; clear h11)
        | (go_at_call 15; refine (KK'.out _ _ _ _ _ H11.out).mono ?_; rintro x wn ⟨rfl, rfl⟩))
      exact end_ret (t := 4) (v := .bool true) (by kernel_rfl) rfl rfl ⟨rfl, H11.out.bel⟩
def sideS (K : Nat) : Lg := if K = 0 then L0 else addS L0 [RC.oneI 1 1]
theorem side_facts (K : Nat) (h : K ≤ 1) : LSane (sideS K) ∧ (sideS K).es.length = K ∧ (sideS K).next = (K : Int) + 1 := by
  unfold sideS
  by_cases h0 : K = 0
  · subst h0
    rw [if_pos rfl]
    exact ⟨sane0, rfl, rfl⟩
  · obtain rfl : K = 1 := by omega
    rw [if_neg (by decide)]
    exact ⟨sane0.add rfl (by decide), rfl, rfl⟩
set_option maxHeartbeats 4000000 in
theorem refuses_dark (w : World) (A : Option Addr) (m c : Nat) (n : Int) (kl : Calls Tryz.prog 6 #[.int .i64 70, .int .i64 9000, .slice A m c] w fun e w' => e = .returned (.bool false) ∧ Below w.heap.size w w') : Calls Tryz.prog 3 #[.slice A m c, .int .i64 n] w (AQuiet w) := by
  have ka := fun W => alive_any W
  unfold AQuiet at ka
  go_enter Tryz.func3, Tryz.ntmps3
  go_wp2_with (first
    | (go_at_call 6; refine kl.mono ?_; rintro x w0 ⟨rfl, hb⟩; have HB0 := Lib.hid hb; clear hb kl)
    | (go_at_call 7; refine (ka _).mono ?_; rintro x w1 ⟨rfl, hb⟩; have HB1 := Lib.hid (belowThen HB0.out hb); clear hb))
  exact end_ret (t := 4) (v := .bool true) (by kernel_rfl) rfl rfl ⟨rfl, HB1.out⟩
theorem wrong_vals (e l : Int) (xs : List RC.Im) : RC.wrongE e l xs = 0 ∨ RC.wrongE e l xs = 1 ∨ RC.wrongE e l xs = 2 := by
  unfold RC.wrongE
  split
  · exact .inr (.inl rfl)
  · split
    · split
      · exact .inr (.inr rfl)
      · exact .inl rfl
    · exact .inr (.inl rfl)
theorem refuses_walk (w : World) (A : Option Addr) (m c : Nat) (xs : List RC.Im) (n : Int) (hI : RC.Ims w A m c xs) : Calls Tryz.prog 3 #[.slice A m c, .int .i64 n] w (AQuiet w) := by
  have kl := RC.light_any 70 9000 (by decide) w A m c xs hI
  unfold RC.LightOut at kl
  cases hL : RC.lightB 70 9000 xs
  · rw [hL] at kl
    exact refuses_dark w A m c n kl
  rw [hL] at kl
  have hxm := hI.2.2.1
  obtain ⟨T1, hT1⟩ : ∃ T, RC.oneT 1 = T := ⟨_, rfl⟩
  obtain ⟨K, hK1, hK⟩ := bit_one n
  obtain ⟨hs, hlen, hnx⟩ := side_facts K hK1
  have h0 : K = 0 → sideS K = L0 := fun h => by unfold sideS; rw [if_pos h]
  have h1 : K = 1 → addS L0 [RC.oneI 1 1] = sideS K := fun h => by unfold sideS; rw [if_neg (by omega)]
  have kr : ∀ W, Below w.heap.size w W → Calls Tryz.prog 8 #[] W fun e w' => ∃ d r, e = .returned (.tuple #[.pointer (some ⟨d, 0, none⟩), .pointer (some ⟨r, 0, none⟩), sagg sh0, .bool true]) ∧ OwnL w d NR DR [] w' := fun W hb => by
    refine (ready_any W).mono ?_
    rintro e w' ⟨d, r, p, C, he, hd, hb2, _⟩
    exact ⟨d, r, he, Own.toL (w0 := w) ⟨p, disk_low hd hb.size, belowThen hb hb2⟩⟩
  have F := fine_of dr_ready
  have hN0 := nr_le
  generalize DR = D0 at *
  generalize NR = N0 at *
  have ko := fun (W : World) (d : Nat) (bl : List (Nat × TypeId × Array Value)) (h : OwnL w d N0 D0 bl W) => open_any h F (by omega)
  have k1 : ∀ W, Calls Tryz.prog 11 #[.int .i64 1, .int .u64 1] W fun x w' => x = .returned (.agg #[.int .i64 1, .int .u64 1, .string T1]) ∧ Below W.heap.size W w' := fun W => one_new 1 (by decide) 1 T1 hT1 W
  have ka : ∀ (W : World) (g d q : Nat) (bl : List (Nat × TypeId × Array Value)), K = 1 → LogAt w g d q (N0 + 16) L0 bl W → Calls Tryz.prog 10 #[.pointer (some ⟨g, 0, none⟩), .slice (some ⟨W.heap.size, 0, none⟩) 1 1] (W.alloc (.cells #[.int .i64 1, .int .u64 1, .string T1] RC.TIm)) fun e w' => e = .returned (.tuple #[.int .u64 1, .int .i64 0]) ∧ LogAt w g d q (N0 + 16) (sideS K) bl w' := fun W g d q bl hk h => by
    have := add_new h sane0 (by decide) (by decide) 1 (by decide) 1 (by decide) T1 hT1
    rw [h1 hk] at this
    exact this
  clear h1 hT1
  have hnx2 : (sideS K).next ≤ 2 ∧ 0 < (sideS K).next := by omega
  have hpl := pend_le (sideS K).es
  generalize sideS K = S at *
  have kn := fun (W : World) (g d q : Nat) (bl : List (Nat × TypeId × Array Value)) (h : LogAt w g d q (N0 + 16) S bl W) => next_any h
  have ku := fun (W : World) (g d q : Nat) (bl : List (Nat × TypeId × Array Value)) (h : LogAt w g d q (N0 + 16) S bl W) => s_used h hs
  have kp := fun (W : World) (g d q : Nat) (bl : List (Nat × TypeId × Array Value)) (h : LogAt w g d q (N0 + 16) S bl W) => s_pend h hs
  have kk := fun (W : World) (g d q : Nat) (bl : List (Nat × TypeId × Array Value)) (h : LogAt w g d q (N0 + 16) S bl W) => broken_any h
  have kal : ∀ W, Calls Tryz.prog 7 #[] W fun e w' => e = .returned (.bool true) ∧ Below W.heap.size W w' := fun W => alive_any W
  by_cases hw : RC.wrongE 9 S.next xs = 0
  · have hf := RC.wrong_iff.1 hw
    have hf1 := hf.n1
    by_cases hm1 : m = 1
    · subst hm1
      have hs' : LSane (addS S xs) := hs.add hxm (by omega)
      refine core_ok (T1 := T1) w n A 1 c K hK hK1 (N0 + 16) D0 N0 S (addS S xs) S.next S.next (3 * (S.es.length : Int)) (pendN S.es : Int) (S.next + 1) (3 * ((addS S xs).es.length : Int)) ((pendN S.es : Int) + 1) (by omega) (by omega) rfl rfl ?_ rfl kl kr ko k1 ka h0 kn ku kp
        (fun W g d q bl h => s_add h hs (by omega) A c xs (hI.old h.bel) hf (by omega)) (fun W g d q bl h => next_any h) (fun W g d q bl h => s_used h hs') (fun W g d q bl h => ?_) (fun W g d q bl h => broken_any h) kal
      · show _ < 3 * ((S.es ++ [_]).length : Int)
        rw [List.length_append]
        simp
        omega
      · have := s_pend h hs'
        rw [show pendN (addS S xs).es = pendN S.es + 1 from pend_snoc _ _] at this
        exact this
    · exact core_bad31 (T1 := T1) w n A m c K hK hK1 (N0 + 16) D0 N0 S S 0 S.next (3 * (S.es.length : Int)) (pendN S.es : Int) S.next (3 * (S.es.length : Int)) (pendN S.es : Int) (by omega) (by omega) rfl rfl rfl rfl kl kr ko k1 ka h0 kn ku kp
        (fun W g d q bl h => add_big h A m c xs (hI.old h.bel) hf ⟨hs.nx, by omega⟩ (by omega)) kn ku kp kk kal
  · have kb := fun (W : World) (g d q : Nat) (bl : List (Nat × TypeId × Array Value)) (h : LogAt w g d q (N0 + 16) S bl W) => add_bad h A m c xs (hI.old h.bel) hw
    rcases wrong_vals 9 S.next xs with e | e | e
    · exact absurd e hw
    · rw [e] at kb
      exact core_bad1 (T1 := T1) w n A m c K hK hK1 (N0 + 16) D0 N0 S S 0 S.next (3 * (S.es.length : Int)) (pendN S.es : Int) S.next (3 * (S.es.length : Int)) (pendN S.es : Int) (by omega) (by omega) rfl rfl rfl rfl kl kr ko k1 ka h0 kn ku kp kb kn ku kp kk kal
    · rw [e] at kb
      exact core_bad2 (T1 := T1) w n A m c K hK hK1 (N0 + 16) D0 N0 S S 0 S.next (3 * (S.es.length : Int)) (pendN S.es : Int) S.next (3 * (S.es.length : Int)) (pendN S.es : Int) (by omega) (by omega) rfl rfl rfl rfl kl kr ko k1 ka h0 kn ku kp kb kn ku kp kk kal
end Go.Proofs.YtakilnpfhljgfaaGreat.WL
namespace Go.Proofs.YtakilnpfhljgfaaGreat.RC
set_option maxRecDepth 100000
open Go.RowKit Go.Proofs.YtakilnpfhljgfaaGreat.WI Go.Proofs.YtakilnpfhljgfaaGreat.SM Go.WideShapes Go.ChangeShapes Go.Deep
section
variable {H : Type} {enc : TypeId × Value → H} {w : World}
theorem imgs_in {base : Nat} {v : Value} {d : DataW H} {p : List MemPlace} (hok : Value.okWide Tryz.prog w .any base 22 v) (h : DataW.Trod enc Tryz.prog w 0 (fun _ => true) true 22 v d p) :
    ∃ a len cap xs, v = .slice a len cap ∧ Ims w a len cap xs := by
  obtain ⟨a0, l0, c0, rfl⟩ := okWide_slice Tryz.underlying22 hok
  obtain ⟨fuel, hf⟩ := h
  have hf2 : DataW.trod enc Tryz.prog w 0 (fun _ => true) true fuel 22 [.slice a0 l0 c0] = some (d, p) := by simpa [Value.cells] using hf
  exact images_in hf2
end
end Go.Proofs.YtakilnpfhljgfaaGreat.RC
namespace Go.Proofs.YtakilnpfhljgfaaGreat.logRefuses
set_option maxRecDepth 100000
set_option linter.unusedVariables false
open Go.RowKit
theorem walk (A : Option Addr) (m c : Nat) (xs : List RC.Im) (n : Int) (w : World) (g0 : RC.Ims w A m c xs) (g1 : (Lit.int .i64 n).wf = true) : Calls Tryz.prog 3 #[.slice A m c, .int .i64 n] w fun e w' => e = .returned (.bool true) ∧ Below w.heap.size w w' := WL.refuses_walk w A m c xs n g0
end Go.Proofs.YtakilnpfhljgfaaGreat.logRefuses
