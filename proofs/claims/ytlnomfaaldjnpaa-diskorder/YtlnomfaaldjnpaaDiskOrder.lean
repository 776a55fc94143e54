/- DiskOrder: the walk. No condition. -/
import Derived.Test.YtlnomfaaldjnpaaDkEval
import Derived.Deep.CutBlock
import Derived.Deep.Cut
namespace Go.Proofs.Ytlnomfaaldjnpaa.diskOrder
open Go.RowKit Go.Proofs.Ytlnomfaaldjnpaa.DK Go.Proofs.Ytlnomfaaldjnpaa.MI
set_option linter.unusedVariables false
set_option linter.unusedSimpArgs false

def oD1 : Dk := admitK (newK 2) 1 1
def oD2 : Dk := admitK oD1 2 2
def oD3 (a : ByteArray) : Dk := oneK oD2 1 0 a
def oD4 (a b : ByteArray) : Dk := oneK (oD3 a) 2 0 b
def oD5 : Bool → ByteArray → ByteArray → Dk
  | true, a, b => settleK (oD4 a b) 2
  | false, a, b => oD4 a b
def oD6 : Bool → Bool → ByteArray → ByteArray → Dk
  | true, s, a, b => settleK (oD5 s a b) 1
  | false, s, a, b => oD5 s a b
def oE (f s : Bool) (a b : ByteArray) (keep : List Int) : Dk := restoreK (cutK (oD6 f s a b) keep)
theorem oD1_eq : admitE (newK 2) 1 1 = 0 ∧ admitK (newK 2) 1 1 = oD1 := ⟨by kernel_rfl, rfl⟩
theorem oD2_eq : admitE oD1 2 2 = 0 ∧ admitK oD1 2 2 = oD2 := ⟨by kernel_rfl, rfl⟩
theorem oD3_eq (a : ByteArray) (h : a.size = 64) : writeE oD2 1 1 0 a = 0 ∧ writeK oD2 1 1 0 a = oD3 a := write_one (by kernel_rfl) (by kernel_rfl) (by kernel_rfl) (by kernel_rfl) (by decide) h (by decide) (by decide +kernel)
theorem oD4_eq (a b : ByteArray) (h : b.size = 64) : writeE (oD3 a) 2 2 0 b = 0 ∧ writeK (oD3 a) 2 2 0 b = oD4 a b := write_one (by kernel_rfl) (by kernel_rfl) (by kernel_rfl) (by kernel_rfl) (by decide) h (by decide) (of_decide_eq_true (by kernel_rfl))
theorem oD5_eq {a b : ByteArray} : barrierE (oD4 a b) 2 2 = 0 ∧ barrierK (oD4 a b) 2 2 = oD5 true a b := ⟨by kernel_rfl, by kernel_rfl⟩
theorem oD6_eq (s : Bool) (a b : ByteArray) : barrierE (oD5 s a b) 1 1 = 0 ∧ barrierK (oD5 s a b) 1 1 = oD6 true s a b := by
  cases s
  · exact ⟨by kernel_rfl, by kernel_rfl⟩
  · exact ⟨by kernel_rfl, by kernel_rfl⟩
theorem oRead (f s : Bool) (a b : ByteArray) : readE (oD6 f s a b) 0 1 = 0 ∧ readT (oD6 f s a b) 0 1 = b := by
  cases f <;> cases s <;> exact read_one (by kernel_rfl) (by kernel_rfl)
def wantK (f s b0 b1 : Bool) (a b : ByteArray) : ByteArray :=
  if s || (if f then b0 else b1) then b else if f || b0 then a else zsec
def lst (b0 b1 : Bool) (L : Int → Option Wr) (x y : Wr) : Int → Option Wr := if b1 = true then keepL (if b0 = true then keepL L x else L) y else (if b0 = true then keepL L x else L)
def lst1 (b0 : Bool) (L : Int → Option Wr) (x : Wr) : Int → Option Wr := if b0 = true then keepL L x else L
theorem oNow (f s : Bool) (a b : ByteArray) (keep : List Int) : readE (oE f s a b keep) 0 1 = 0 ∧ (((oE f s a b keep).now 0).getD zsec) = wantK f s (staysB keep 0) (staysB keep 1) a b := by
  cases f <;> cases s
  · refine ⟨by kernel_rfl, ?_⟩
    show ((dataOf (lst (staysB keep 0) (staysB keep 1) (fun _ => none) ⟨1, 0, 1, a⟩ ⟨2, 0, 2, b⟩) 0).getD zsec) = _
    cases staysB keep 0 <;> cases staysB keep 1 <;> kernel_rfl
  · refine ⟨by kernel_rfl, ?_⟩
    show ((dataOf (lst1 (staysB keep 0) (oD5 true a b).lasts ⟨1, 0, 1, a⟩) 0).getD zsec) = _
    cases staysB keep 0 <;> cases staysB keep 1 <;> kernel_rfl
  · refine ⟨by kernel_rfl, ?_⟩
    show ((dataOf (lst1 (staysB keep 0) (oD6 true false a b).lasts ⟨2, 0, 2, b⟩) 0).getD zsec) = _
    cases staysB keep 0 <;> cases staysB keep 1 <;> kernel_rfl
  · refine ⟨by kernel_rfl, ?_⟩
    show ((dataOf (oD6 true true a b).lasts 0).getD zsec) = _
    cases staysB keep 0 <;> cases staysB keep 1 <;> kernel_rfl
theorem oFin (f s : Bool) (a b : ByteArray) (keep : List Int) : readE (oE f s a b keep) 0 1 = 0 ∧ readT (oE f s a b keep) 0 1 = wantK f s (staysB keep 0) (staysB keep 1) a b := read_one (oNow f s a b keep).1 (oNow f s a b keep).2

set_option maxHeartbeats 4000000 in
set_option maxRecDepth 100000 in
theorem walk_false_false (a b : ByteArray) (A : Option Addr) (m c : Nat) (z : List Int) (w : World) (hA : a.size = 64) (hB : b.size = 64) (hm : m ≤ 10) (hz : IsRow .i64 w A m c z) :
    Calls Try.prog 6 #[.string a, .string b, .bool false, .bool false, .slice A m c] w fun e w' => e = .returned (.bool true) ∧ Below w.heap.size w w' := by
  have knew := own_new w (belowSame w) 2 (by omega) (by omega)
  obtain ⟨T, hT⟩ : ∃ T, wantK false false (staysB (z.take m) 0) (staysB (z.take m) 1) a b = T := ⟨_, rfl⟩
  have k1 : ∀ {g : Nat} {W : World}, Own w g 0 (newK 2) W → Calls Try.prog 14 #[.pointer (some ⟨g, 0, none⟩), .int .i64 1, .int .u64 1] W fun e' w' => e' = .returned (.int .i64 0) ∧ Own w g 0 (oD1) w' := fun {g W} h => by
    have := own_admit h 1 1 (by omega); rwa [oD1_eq.1] at this
  have k2 : ∀ {g : Nat} {W : World}, Own w g 0 (oD1) W → Calls Try.prog 14 #[.pointer (some ⟨g, 0, none⟩), .int .i64 2, .int .u64 2] W fun e' w' => e' = .returned (.int .i64 0) ∧ Own w g 0 (oD2) w' := fun {g W} h => by
    have := own_admit h 2 2 (by omega); rwa [oD2_eq.1] at this
  have k3 : ∀ {g : Nat} {W : World}, Own w g 0 (oD2) W → Calls Try.prog 15 #[.pointer (some ⟨g, 0, none⟩), .int .i64 1, .int .u64 1, .int .i64 0, .string a] W fun e' w' => e' = .returned (.int .i64 0) ∧ Own w g 16 (oD3 a) w' := fun {g W} h => by
    have := own_write h 1 1 0 a (by omega) (by omega); rwa [(oD3_eq a hA).1, (oD3_eq a hA).2] at this
  have k4 : ∀ {g : Nat} {W : World}, Own w g 16 (oD3 a) W → Calls Try.prog 15 #[.pointer (some ⟨g, 0, none⟩), .int .i64 2, .int .u64 2, .int .i64 0, .string b] W fun e' w' => e' = .returned (.int .i64 0) ∧ Own w g 32 (oD4 a b) w' := fun {g W} h => by
    have := own_write h 2 2 0 b (by omega) (by omega); rwa [(oD4_eq a b hB).1, (oD4_eq a b hB).2] at this
  have k5 : ∀ {g : Nat} {W : World}, Own w g 32 (oD4 a b) W → Calls Try.prog 17 #[.pointer (some ⟨g, 0, none⟩), .int .i64 0, .int .i64 1] W fun e' w' => e' = .returned (.tuple #[.string b, .int .i64 0]) ∧ Own w g 32 (oD4 a b) w' := fun {g W} h => by
    have h' : Own w g 32 (oD6 false false a b) W := h; have := own_read h' 0 1; rw [(oRead false false a b).2, (oRead false false a b).1] at this; exact this
  have k6 : ∀ {g : Nat} {W : World}, Own w g 32 (oD4 a b) W → Calls Try.prog 19 #[.pointer (some ⟨g, 0, none⟩), .slice A m c] W fun e' w' => e' = .returned (.int .i64 2) ∧ Own w g 32 (cutK (oD4 a b) (z.take m)) w' := fun {g W} h => by
    exact own_cut_row h hz (by omega)
  have k7 : ∀ {g : Nat} {W : World}, Own w g 32 (cutK (oD4 a b) (z.take m)) W → Calls Try.prog 20 #[.pointer (some ⟨g, 0, none⟩)] W fun e' w' => e' = .returned (.tuple #[]) ∧ Own w g 32 (oE false false a b (z.take m)) w' := fun {g W} h => by
    exact own_restore h
  have k8 : ∀ {g : Nat} {W : World}, Own w g 32 (oE false false a b (z.take m)) W → Calls Try.prog 17 #[.pointer (some ⟨g, 0, none⟩), .int .i64 0, .int .i64 1] W fun e' w' => e' = .returned (.tuple #[.string T, .int .i64 0]) ∧ Own w g 32 (oE false false a b (z.take m)) w' := fun {g W} h => by
    have := own_read h 0 1; rwa [(oFin false false a b _).2, (oFin false false a b _).1, hT] at this
  have s0 := stays_row hz 0
  have s1 := stays_row hz 1
  have hcl := fun (h : 0 < m) => hz.cells h
  have HCL := Lib.hid hcl
  rw [s0, s1] at hT
  clear s0 s1 hz hcl
  generalize oE false false a b (z.take m) = DE at *
  generalize cutK (oD4 a b) (z.take m) = DC at *
  generalize oD4 a b = D6 at *
  generalize oD3 a = D3 at *
  generalize oD2 = D2 at *
  generalize oD1 = D1 at *
  have hmk : ∀ W : World, (Instr.makeSlice 40 (.int .i64 64) (.int .i64 64)).run Try.prog W = .ok (.slice (some ⟨W.heap.size, 0, none⟩) 64 64) (W.alloc (.cells (zeroCells 64) 5)) := zeros_make 64 (by omega)
  have htx := fun (W : World) => zeros_text W
  obtain ⟨Z, hZ⟩ : ∃ Z, zsec = Z := ⟨_, rfl⟩
  unfold wantK at hT
  rw [hZ] at htx hT
  obtain ⟨ZC, hZC⟩ : ∃ ZC, zeroCells 64 = ZC := ⟨_, rfl⟩
  rw [hZC] at htx hmk
  clear hZC hZ
  have b1 : ((a.size : Int) != 64) = false := by simp; omega
  have b2 : ((b.size : Int) != 64) = false := by simp; omega
  have b3 : decide ((10 : Int) < (m : Int)) = false := by simp; omega
  obtain ⟨x0, hx0⟩ : ∃ x, z.getD 0 0 = x := ⟨_, rfl⟩
  obtain ⟨x1, hx1⟩ : ∃ x, z.getD 1 0 = x := ⟨_, rfl⟩
  rw [hx0, hx1] at hT
  have HX0 := Lib.hid hx0
  have HX1 := Lib.hid hx1
  clear hx0 hx1
  have HT := Lib.hid hT
  clear hT
  go_enter Try.func6, Try.ntmps6
  go_upto_region 19 with (first
    | (go_at_call 13; refine knew.mono ?_; rintro e w0 ⟨g, rfl, h0⟩; have H1 := Lib.hid h0; clear h0)
    | (go_at_call 14; (with_reducible refine (k1 H1.out).mono ?_); rintro e w1 ⟨rfl, h1⟩; have H2 := Lib.hid h1; clear h1 H1)
    | (go_at_call 14; (with_reducible refine (k2 H2.out).mono ?_); rintro e w2 ⟨rfl, h2⟩; have H3 := Lib.hid h2; clear h2 H2)
    | (go_at_call 15; (with_reducible refine (k3 H3.out).mono ?_); rintro e w3 ⟨rfl, h3⟩; have H4 := Lib.hid h3; clear h3 H3)
    | (go_at_call 15; (with_reducible refine (k4 H4.out).mono ?_); rintro e w4 ⟨rfl, h4⟩; have H5 := Lib.hid h4; clear h4 H4)
    | (go_at_call 17; (with_reducible refine (k5 H5.out).mono ?_); rintro e w5 ⟨rfl, h5⟩; have H6 := Lib.hid h5; clear h5 H5)
    | (go_at_call 19; (with_reducible refine (k6 H6.out).mono ?_); rintro e w6 ⟨rfl, h6⟩; have H7 := Lib.hid h6; clear h6 H6)
    | (go_at_call 20; (with_reducible refine (k7 H7.out).mono ?_); rintro e w7 ⟨rfl, h7⟩; have H8 := Lib.hid h7; clear h7 H7)
    | (go_at_call 17; (with_reducible refine (k8 H8.out).mono ?_); rintro e w8 ⟨rfl, h8⟩; have H9 := Lib.hid h8; clear h8 H8))
  have HO := Lib.hid (H9.out.alloc (.cells ZC 5))
  clear H9
  rcases Nat.eq_zero_or_pos m with hm0 | hm0
  · subst hm0
    have d0 : decide (0 < 0) = false := rfl
    have d1 : decide (1 < 0) = false := rfl
    have hT := HT.out
    simp only [d0, d1, Bool.and_true, Bool.and_false, Bool.true_and, Bool.false_and, Bool.or_false, Bool.or_true, Bool.false_or, Bool.true_or, if_true, if_false, Bool.false_eq_true, reduceIte] at hT
    subst hT
    clear HT HCL HX0 HX1
    go_wp2_with (go_at_call 12; refine (alive_any _).mono ?_; rintro e wz ⟨rfl, hz⟩; have HZ := Lib.hid (HO.out.then_ hz); clear hz)
    go_ret
    exact ⟨ret_bool (by first | rfl | simp), HZ.out.bel⟩
  · obtain ⟨b0, off, rfl, hb0, hc0⟩ := HCL.out hm0
    have d0 : decide (0 < m) = true := by simp; omega
    have d0' : decide ((0 : Int) < (m : Int)) = true := by simp; omega
    have y0 : (w8.alloc (.cells ZC 5)).cell? ⟨b0, off + 0, none⟩ = some (.int .i64 x0) := by rw [← HX0.out]; exact (HO.out.bel.cell (p := ⟨b0, off + 0, none⟩) hb0).trans (hc0 0 (by omega))
    rw [Nat.add_zero] at y0
    rcases Nat.lt_or_ge 1 m with hm1 | hm1
    · have d1 : decide (1 < m) = true := by simp; omega
      have d1' : decide ((1 : Int) < (m : Int)) = true := by simp; omega
      have y1 : (w8.alloc (.cells ZC 5)).cell? ⟨b0, off + 1, none⟩ = some (.int .i64 x1) := by rw [← HX1.out]; exact (HO.out.bel.cell (p := ⟨b0, off + 1, none⟩) hb0).trans (hc0 1 (by omega))
      clear hb0 hc0
      cases o0 : oddB x0 <;> cases o1 : oddB x1
      · have p0 : (bits BinOp.and IntKind.i64 x0 1 == 1) = false := o0
        have p1 : (bits BinOp.and IntKind.i64 x1 1 == 1) = false := o1
        have hT := HT.out
        simp only [d0, d1, o0, o1, Bool.and_true, Bool.and_false, Bool.true_and, Bool.false_and, Bool.or_false, Bool.or_true, Bool.false_or, Bool.true_or, if_true, if_false, Bool.false_eq_true, reduceIte] at hT
        subst hT
        clear HT HCL HX0 HX1
        go_wp2_with (go_at_call 12; refine (alive_any _).mono ?_; rintro e wz ⟨rfl, hz⟩; have HZ := Lib.hid (HO.out.then_ hz); clear hz)
        go_ret
        exact ⟨ret_bool (by first | rfl | simp), HZ.out.bel⟩
      · have p0 : (bits BinOp.and IntKind.i64 x0 1 == 1) = false := o0
        have p1 : (bits BinOp.and IntKind.i64 x1 1 == 1) = true := o1
        have hT := HT.out
        simp only [d0, d1, o0, o1, Bool.and_true, Bool.and_false, Bool.true_and, Bool.false_and, Bool.or_false, Bool.or_true, Bool.false_or, Bool.true_or, if_true, if_false, Bool.false_eq_true, reduceIte] at hT
        subst hT
        clear HT HCL HX0 HX1
        go_wp2_with (go_at_call 12; refine (alive_any _).mono ?_; rintro e wz ⟨rfl, hz⟩; have HZ := Lib.hid (HO.out.then_ hz); clear hz)
        go_ret
        exact ⟨ret_bool (by first | rfl | simp), HZ.out.bel⟩
      · have p0 : (bits BinOp.and IntKind.i64 x0 1 == 1) = true := o0
        have p1 : (bits BinOp.and IntKind.i64 x1 1 == 1) = false := o1
        have hT := HT.out
        simp only [d0, d1, o0, o1, Bool.and_true, Bool.and_false, Bool.true_and, Bool.false_and, Bool.or_false, Bool.or_true, Bool.false_or, Bool.true_or, if_true, if_false, Bool.false_eq_true, reduceIte] at hT
        subst hT
        clear HT HCL HX0 HX1
        go_wp2_with (go_at_call 12; refine (alive_any _).mono ?_; rintro e wz ⟨rfl, hz⟩; have HZ := Lib.hid (HO.out.then_ hz); clear hz)
        go_ret
        exact ⟨ret_bool (by first | rfl | simp), HZ.out.bel⟩
      · have p0 : (bits BinOp.and IntKind.i64 x0 1 == 1) = true := o0
        have p1 : (bits BinOp.and IntKind.i64 x1 1 == 1) = true := o1
        have hT := HT.out
        simp only [d0, d1, o0, o1, Bool.and_true, Bool.and_false, Bool.true_and, Bool.false_and, Bool.or_false, Bool.or_true, Bool.false_or, Bool.true_or, if_true, if_false, Bool.false_eq_true, reduceIte] at hT
        subst hT
        clear HT HCL HX0 HX1
        go_wp2_with (go_at_call 12; refine (alive_any _).mono ?_; rintro e wz ⟨rfl, hz⟩; have HZ := Lib.hid (HO.out.then_ hz); clear hz)
        go_ret
        exact ⟨ret_bool (by first | rfl | simp), HZ.out.bel⟩
    · have d1 : decide (1 < m) = false := by simp; omega
      have d1' : decide ((1 : Int) < (m : Int)) = false := by simp; omega
      clear hb0 hc0
      cases o0 : oddB x0
      · have p0 : (bits BinOp.and IntKind.i64 x0 1 == 1) = false := o0
        have hT := HT.out
        simp only [d0, d1, o0, Bool.and_true, Bool.and_false, Bool.true_and, Bool.false_and, Bool.or_false, Bool.or_true, Bool.false_or, Bool.true_or, if_true, if_false, Bool.false_eq_true, reduceIte] at hT
        subst hT
        clear HT HCL HX0 HX1
        go_wp2_with (go_at_call 12; refine (alive_any _).mono ?_; rintro e wz ⟨rfl, hz⟩; have HZ := Lib.hid (HO.out.then_ hz); clear hz)
        go_ret
        exact ⟨ret_bool (by first | rfl | simp), HZ.out.bel⟩
      · have p0 : (bits BinOp.and IntKind.i64 x0 1 == 1) = true := o0
        have hT := HT.out
        simp only [d0, d1, o0, Bool.and_true, Bool.and_false, Bool.true_and, Bool.false_and, Bool.or_false, Bool.or_true, Bool.false_or, Bool.true_or, if_true, if_false, Bool.false_eq_true, reduceIte] at hT
        subst hT
        clear HT HCL HX0 HX1
        go_wp2_with (go_at_call 12; refine (alive_any _).mono ?_; rintro e wz ⟨rfl, hz⟩; have HZ := Lib.hid (HO.out.then_ hz); clear hz)
        go_ret
        exact ⟨ret_bool (by first | rfl | simp), HZ.out.bel⟩
set_option maxHeartbeats 4000000 in
set_option maxRecDepth 100000 in
theorem walk_false_true (a b : ByteArray) (A : Option Addr) (m c : Nat) (z : List Int) (w : World) (hA : a.size = 64) (hB : b.size = 64) (hm : m ≤ 10) (hz : IsRow .i64 w A m c z) :
    Calls Try.prog 6 #[.string a, .string b, .bool false, .bool true, .slice A m c] w fun e w' => e = .returned (.bool true) ∧ Below w.heap.size w w' := by
  have knew := own_new w (belowSame w) 2 (by omega) (by omega)
  obtain ⟨T, hT⟩ : ∃ T, wantK false true (staysB (z.take m) 0) (staysB (z.take m) 1) a b = T := ⟨_, rfl⟩
  have k1 : ∀ {g : Nat} {W : World}, Own w g 0 (newK 2) W → Calls Try.prog 14 #[.pointer (some ⟨g, 0, none⟩), .int .i64 1, .int .u64 1] W fun e' w' => e' = .returned (.int .i64 0) ∧ Own w g 0 (oD1) w' := fun {g W} h => by
    have := own_admit h 1 1 (by omega); rwa [oD1_eq.1] at this
  have k2 : ∀ {g : Nat} {W : World}, Own w g 0 (oD1) W → Calls Try.prog 14 #[.pointer (some ⟨g, 0, none⟩), .int .i64 2, .int .u64 2] W fun e' w' => e' = .returned (.int .i64 0) ∧ Own w g 0 (oD2) w' := fun {g W} h => by
    have := own_admit h 2 2 (by omega); rwa [oD2_eq.1] at this
  have k3 : ∀ {g : Nat} {W : World}, Own w g 0 (oD2) W → Calls Try.prog 15 #[.pointer (some ⟨g, 0, none⟩), .int .i64 1, .int .u64 1, .int .i64 0, .string a] W fun e' w' => e' = .returned (.int .i64 0) ∧ Own w g 16 (oD3 a) w' := fun {g W} h => by
    have := own_write h 1 1 0 a (by omega) (by omega); rwa [(oD3_eq a hA).1, (oD3_eq a hA).2] at this
  have k4 : ∀ {g : Nat} {W : World}, Own w g 16 (oD3 a) W → Calls Try.prog 15 #[.pointer (some ⟨g, 0, none⟩), .int .i64 2, .int .u64 2, .int .i64 0, .string b] W fun e' w' => e' = .returned (.int .i64 0) ∧ Own w g 32 (oD4 a b) w' := fun {g W} h => by
    have := own_write h 2 2 0 b (by omega) (by omega); rwa [(oD4_eq a b hB).1, (oD4_eq a b hB).2] at this
  have k5 : ∀ {g : Nat} {W : World}, Own w g 32 (oD4 a b) W → Calls Try.prog 24 #[.pointer (some ⟨g, 0, none⟩), .int .i64 2, .int .u64 2] W fun e' w' => e' = .returned (.int .i64 0) ∧ Own w g 32 (oD5 true a b) w' := fun {g W} h => by
    have := own_barrier h 2 2 (by omega); rwa [oD5_eq.1, oD5_eq.2] at this
  have k6 : ∀ {g : Nat} {W : World}, Own w g 32 (oD5 true a b) W → Calls Try.prog 17 #[.pointer (some ⟨g, 0, none⟩), .int .i64 0, .int .i64 1] W fun e' w' => e' = .returned (.tuple #[.string b, .int .i64 0]) ∧ Own w g 32 (oD5 true a b) w' := fun {g W} h => by
    have h' : Own w g 32 (oD6 false true a b) W := h; have := own_read h' 0 1; rw [(oRead false true a b).2, (oRead false true a b).1] at this; exact this
  have k7 : ∀ {g : Nat} {W : World}, Own w g 32 (oD5 true a b) W → Calls Try.prog 19 #[.pointer (some ⟨g, 0, none⟩), .slice A m c] W fun e' w' => e' = .returned (.int .i64 1) ∧ Own w g 32 (cutK (oD5 true a b) (z.take m)) w' := fun {g W} h => by
    exact own_cut_row h hz (by omega)
  have k8 : ∀ {g : Nat} {W : World}, Own w g 32 (cutK (oD5 true a b) (z.take m)) W → Calls Try.prog 20 #[.pointer (some ⟨g, 0, none⟩)] W fun e' w' => e' = .returned (.tuple #[]) ∧ Own w g 32 (oE false true a b (z.take m)) w' := fun {g W} h => by
    exact own_restore h
  have k9 : ∀ {g : Nat} {W : World}, Own w g 32 (oE false true a b (z.take m)) W → Calls Try.prog 17 #[.pointer (some ⟨g, 0, none⟩), .int .i64 0, .int .i64 1] W fun e' w' => e' = .returned (.tuple #[.string T, .int .i64 0]) ∧ Own w g 32 (oE false true a b (z.take m)) w' := fun {g W} h => by
    have := own_read h 0 1; rwa [(oFin false true a b _).2, (oFin false true a b _).1, hT] at this
  have s0 := stays_row hz 0
  have s1 := stays_row hz 1
  have hcl := fun (h : 0 < m) => hz.cells h
  have HCL := Lib.hid hcl
  rw [s0, s1] at hT
  clear s0 s1 hz hcl
  generalize oE false true a b (z.take m) = DE at *
  generalize cutK (oD5 true a b) (z.take m) = DC at *
  generalize oD5 true a b = D6 at *
  generalize oD4 a b = D4 at *
  generalize oD3 a = D3 at *
  generalize oD2 = D2 at *
  generalize oD1 = D1 at *
  have hmk : ∀ W : World, (Instr.makeSlice 40 (.int .i64 64) (.int .i64 64)).run Try.prog W = .ok (.slice (some ⟨W.heap.size, 0, none⟩) 64 64) (W.alloc (.cells (zeroCells 64) 5)) := zeros_make 64 (by omega)
  have htx := fun (W : World) => zeros_text W
  obtain ⟨Z, hZ⟩ : ∃ Z, zsec = Z := ⟨_, rfl⟩
  unfold wantK at hT
  rw [hZ] at htx hT
  obtain ⟨ZC, hZC⟩ : ∃ ZC, zeroCells 64 = ZC := ⟨_, rfl⟩
  rw [hZC] at htx hmk
  clear hZC hZ
  have b1 : ((a.size : Int) != 64) = false := by simp; omega
  have b2 : ((b.size : Int) != 64) = false := by simp; omega
  have b3 : decide ((10 : Int) < (m : Int)) = false := by simp; omega
  obtain ⟨x0, hx0⟩ : ∃ x, z.getD 0 0 = x := ⟨_, rfl⟩
  obtain ⟨x1, hx1⟩ : ∃ x, z.getD 1 0 = x := ⟨_, rfl⟩
  rw [hx0, hx1] at hT
  have HX0 := Lib.hid hx0
  have HX1 := Lib.hid hx1
  clear hx0 hx1
  have HT := Lib.hid hT
  clear hT
  go_enter Try.func6, Try.ntmps6
  go_upto_region 19 with (first
    | (go_at_call 13; refine knew.mono ?_; rintro e w0 ⟨g, rfl, h0⟩; have H1 := Lib.hid h0; clear h0)
    | (go_at_call 14; (with_reducible refine (k1 H1.out).mono ?_); rintro e w1 ⟨rfl, h1⟩; have H2 := Lib.hid h1; clear h1 H1)
    | (go_at_call 14; (with_reducible refine (k2 H2.out).mono ?_); rintro e w2 ⟨rfl, h2⟩; have H3 := Lib.hid h2; clear h2 H2)
    | (go_at_call 15; (with_reducible refine (k3 H3.out).mono ?_); rintro e w3 ⟨rfl, h3⟩; have H4 := Lib.hid h3; clear h3 H3)
    | (go_at_call 15; (with_reducible refine (k4 H4.out).mono ?_); rintro e w4 ⟨rfl, h4⟩; have H5 := Lib.hid h4; clear h4 H4)
    | (go_at_call 24; (with_reducible refine (k5 H5.out).mono ?_); rintro e w5 ⟨rfl, h5⟩; have H6 := Lib.hid h5; clear h5 H5)
    | (go_at_call 17; (with_reducible refine (k6 H6.out).mono ?_); rintro e w6 ⟨rfl, h6⟩; have H7 := Lib.hid h6; clear h6 H6)
    | (go_at_call 19; (with_reducible refine (k7 H7.out).mono ?_); rintro e w7 ⟨rfl, h7⟩; have H8 := Lib.hid h7; clear h7 H7)
    | (go_at_call 20; (with_reducible refine (k8 H8.out).mono ?_); rintro e w8 ⟨rfl, h8⟩; have H9 := Lib.hid h8; clear h8 H8)
    | (go_at_call 17; (with_reducible refine (k9 H9.out).mono ?_); rintro e w9 ⟨rfl, h9⟩; have H10 := Lib.hid h9; clear h9 H9))
  have HO := Lib.hid (H10.out.alloc (.cells ZC 5))
  clear H10
  rcases Nat.eq_zero_or_pos m with hm0 | hm0
  · subst hm0
    have d0 : decide (0 < 0) = false := rfl
    have d1 : decide (1 < 0) = false := rfl
    have hT := HT.out
    simp only [d0, d1, Bool.and_true, Bool.and_false, Bool.true_and, Bool.false_and, Bool.or_false, Bool.or_true, Bool.false_or, Bool.true_or, if_true, if_false, Bool.false_eq_true, reduceIte] at hT
    subst hT
    clear HT HCL HX0 HX1
    go_wp2_with (go_at_call 12; refine (alive_any _).mono ?_; rintro e wz ⟨rfl, hz⟩; have HZ := Lib.hid (HO.out.then_ hz); clear hz)
    go_ret
    exact ⟨ret_bool (by first | rfl | simp), HZ.out.bel⟩
  · obtain ⟨b0, off, rfl, hb0, hc0⟩ := HCL.out hm0
    have d0 : decide (0 < m) = true := by simp; omega
    have d0' : decide ((0 : Int) < (m : Int)) = true := by simp; omega
    have y0 : (w9.alloc (.cells ZC 5)).cell? ⟨b0, off + 0, none⟩ = some (.int .i64 x0) := by rw [← HX0.out]; exact (HO.out.bel.cell (p := ⟨b0, off + 0, none⟩) hb0).trans (hc0 0 (by omega))
    rw [Nat.add_zero] at y0
    rcases Nat.lt_or_ge 1 m with hm1 | hm1
    · have d1 : decide (1 < m) = true := by simp; omega
      have d1' : decide ((1 : Int) < (m : Int)) = true := by simp; omega
      have y1 : (w9.alloc (.cells ZC 5)).cell? ⟨b0, off + 1, none⟩ = some (.int .i64 x1) := by rw [← HX1.out]; exact (HO.out.bel.cell (p := ⟨b0, off + 1, none⟩) hb0).trans (hc0 1 (by omega))
      clear hb0 hc0
      cases o0 : oddB x0 <;> cases o1 : oddB x1
      · have p0 : (bits BinOp.and IntKind.i64 x0 1 == 1) = false := o0
        have p1 : (bits BinOp.and IntKind.i64 x1 1 == 1) = false := o1
        have hT := HT.out
        simp only [d0, d1, o0, o1, Bool.and_true, Bool.and_false, Bool.true_and, Bool.false_and, Bool.or_false, Bool.or_true, Bool.false_or, Bool.true_or, if_true, if_false, Bool.false_eq_true, reduceIte] at hT
        subst hT
        clear HT HCL HX0 HX1
        go_wp2_with (go_at_call 12; refine (alive_any _).mono ?_; rintro e wz ⟨rfl, hz⟩; have HZ := Lib.hid (HO.out.then_ hz); clear hz)
        go_ret
        exact ⟨ret_bool (by first | rfl | simp), HZ.out.bel⟩
      · have p0 : (bits BinOp.and IntKind.i64 x0 1 == 1) = false := o0
        have p1 : (bits BinOp.and IntKind.i64 x1 1 == 1) = true := o1
        have hT := HT.out
        simp only [d0, d1, o0, o1, Bool.and_true, Bool.and_false, Bool.true_and, Bool.false_and, Bool.or_false, Bool.or_true, Bool.false_or, Bool.true_or, if_true, if_false, Bool.false_eq_true, reduceIte] at hT
        subst hT
        clear HT HCL HX0 HX1
        go_wp2_with (go_at_call 12; refine (alive_any _).mono ?_; rintro e wz ⟨rfl, hz⟩; have HZ := Lib.hid (HO.out.then_ hz); clear hz)
        go_ret
        exact ⟨ret_bool (by first | rfl | simp), HZ.out.bel⟩
      · have p0 : (bits BinOp.and IntKind.i64 x0 1 == 1) = true := o0
        have p1 : (bits BinOp.and IntKind.i64 x1 1 == 1) = false := o1
        have hT := HT.out
        simp only [d0, d1, o0, o1, Bool.and_true, Bool.and_false, Bool.true_and, Bool.false_and, Bool.or_false, Bool.or_true, Bool.false_or, Bool.true_or, if_true, if_false, Bool.false_eq_true, reduceIte] at hT
        subst hT
        clear HT HCL HX0 HX1
        go_wp2_with (go_at_call 12; refine (alive_any _).mono ?_; rintro e wz ⟨rfl, hz⟩; have HZ := Lib.hid (HO.out.then_ hz); clear hz)
        go_ret
        exact ⟨ret_bool (by first | rfl | simp), HZ.out.bel⟩
      · have p0 : (bits BinOp.and IntKind.i64 x0 1 == 1) = true := o0
        have p1 : (bits BinOp.and IntKind.i64 x1 1 == 1) = true := o1
        have hT := HT.out
        simp only [d0, d1, o0, o1, Bool.and_true, Bool.and_false, Bool.true_and, Bool.false_and, Bool.or_false, Bool.or_true, Bool.false_or, Bool.true_or, if_true, if_false, Bool.false_eq_true, reduceIte] at hT
        subst hT
        clear HT HCL HX0 HX1
        go_wp2_with (go_at_call 12; refine (alive_any _).mono ?_; rintro e wz ⟨rfl, hz⟩; have HZ := Lib.hid (HO.out.then_ hz); clear hz)
        go_ret
        exact ⟨ret_bool (by first | rfl | simp), HZ.out.bel⟩
    · have d1 : decide (1 < m) = false := by simp; omega
      have d1' : decide ((1 : Int) < (m : Int)) = false := by simp; omega
      clear hb0 hc0
      cases o0 : oddB x0
      · have p0 : (bits BinOp.and IntKind.i64 x0 1 == 1) = false := o0
        have hT := HT.out
        simp only [d0, d1, o0, Bool.and_true, Bool.and_false, Bool.true_and, Bool.false_and, Bool.or_false, Bool.or_true, Bool.false_or, Bool.true_or, if_true, if_false, Bool.false_eq_true, reduceIte] at hT
        subst hT
        clear HT HCL HX0 HX1
        go_wp2_with (go_at_call 12; refine (alive_any _).mono ?_; rintro e wz ⟨rfl, hz⟩; have HZ := Lib.hid (HO.out.then_ hz); clear hz)
        go_ret
        exact ⟨ret_bool (by first | rfl | simp), HZ.out.bel⟩
      · have p0 : (bits BinOp.and IntKind.i64 x0 1 == 1) = true := o0
        have hT := HT.out
        simp only [d0, d1, o0, Bool.and_true, Bool.and_false, Bool.true_and, Bool.false_and, Bool.or_false, Bool.or_true, Bool.false_or, Bool.true_or, if_true, if_false, Bool.false_eq_true, reduceIte] at hT
        subst hT
        clear HT HCL HX0 HX1
        go_wp2_with (go_at_call 12; refine (alive_any _).mono ?_; rintro e wz ⟨rfl, hz⟩; have HZ := Lib.hid (HO.out.then_ hz); clear hz)
        go_ret
        exact ⟨ret_bool (by first | rfl | simp), HZ.out.bel⟩
set_option maxHeartbeats 4000000 in
set_option maxRecDepth 100000 in
theorem walk_true_false (a b : ByteArray) (A : Option Addr) (m c : Nat) (z : List Int) (w : World) (hA : a.size = 64) (hB : b.size = 64) (hm : m ≤ 10) (hz : IsRow .i64 w A m c z) :
    Calls Try.prog 6 #[.string a, .string b, .bool true, .bool false, .slice A m c] w fun e w' => e = .returned (.bool true) ∧ Below w.heap.size w w' := by
  have knew := own_new w (belowSame w) 2 (by omega) (by omega)
  obtain ⟨T, hT⟩ : ∃ T, wantK true false (staysB (z.take m) 0) (staysB (z.take m) 1) a b = T := ⟨_, rfl⟩
  have k1 : ∀ {g : Nat} {W : World}, Own w g 0 (newK 2) W → Calls Try.prog 14 #[.pointer (some ⟨g, 0, none⟩), .int .i64 1, .int .u64 1] W fun e' w' => e' = .returned (.int .i64 0) ∧ Own w g 0 (oD1) w' := fun {g W} h => by
    have := own_admit h 1 1 (by omega); rwa [oD1_eq.1] at this
  have k2 : ∀ {g : Nat} {W : World}, Own w g 0 (oD1) W → Calls Try.prog 14 #[.pointer (some ⟨g, 0, none⟩), .int .i64 2, .int .u64 2] W fun e' w' => e' = .returned (.int .i64 0) ∧ Own w g 0 (oD2) w' := fun {g W} h => by
    have := own_admit h 2 2 (by omega); rwa [oD2_eq.1] at this
  have k3 : ∀ {g : Nat} {W : World}, Own w g 0 (oD2) W → Calls Try.prog 15 #[.pointer (some ⟨g, 0, none⟩), .int .i64 1, .int .u64 1, .int .i64 0, .string a] W fun e' w' => e' = .returned (.int .i64 0) ∧ Own w g 16 (oD3 a) w' := fun {g W} h => by
    have := own_write h 1 1 0 a (by omega) (by omega); rwa [(oD3_eq a hA).1, (oD3_eq a hA).2] at this
  have k4 : ∀ {g : Nat} {W : World}, Own w g 16 (oD3 a) W → Calls Try.prog 15 #[.pointer (some ⟨g, 0, none⟩), .int .i64 2, .int .u64 2, .int .i64 0, .string b] W fun e' w' => e' = .returned (.int .i64 0) ∧ Own w g 32 (oD4 a b) w' := fun {g W} h => by
    have := own_write h 2 2 0 b (by omega) (by omega); rwa [(oD4_eq a b hB).1, (oD4_eq a b hB).2] at this
  have k5 : ∀ {g : Nat} {W : World}, Own w g 32 (oD4 a b) W → Calls Try.prog 24 #[.pointer (some ⟨g, 0, none⟩), .int .i64 1, .int .u64 1] W fun e' w' => e' = .returned (.int .i64 0) ∧ Own w g 32 (oD6 true false a b) w' := fun {g W} h => by
    have h' : Own w g 32 (oD5 false a b) W := h; have := own_barrier h' 1 1 (by omega); rw [(oD6_eq false a b).1, (oD6_eq false a b).2] at this; exact this
  have k6 : ∀ {g : Nat} {W : World}, Own w g 32 (oD6 true false a b) W → Calls Try.prog 17 #[.pointer (some ⟨g, 0, none⟩), .int .i64 0, .int .i64 1] W fun e' w' => e' = .returned (.tuple #[.string b, .int .i64 0]) ∧ Own w g 32 (oD6 true false a b) w' := fun {g W} h => by
    have h' : Own w g 32 (oD6 true false a b) W := h; have := own_read h' 0 1; rw [(oRead true false a b).2, (oRead true false a b).1] at this; exact this
  have k7 : ∀ {g : Nat} {W : World}, Own w g 32 (oD6 true false a b) W → Calls Try.prog 19 #[.pointer (some ⟨g, 0, none⟩), .slice A m c] W fun e' w' => e' = .returned (.int .i64 1) ∧ Own w g 32 (cutK (oD6 true false a b) (z.take m)) w' := fun {g W} h => by
    exact own_cut_row h hz (by omega)
  have k8 : ∀ {g : Nat} {W : World}, Own w g 32 (cutK (oD6 true false a b) (z.take m)) W → Calls Try.prog 20 #[.pointer (some ⟨g, 0, none⟩)] W fun e' w' => e' = .returned (.tuple #[]) ∧ Own w g 32 (oE true false a b (z.take m)) w' := fun {g W} h => by
    exact own_restore h
  have k9 : ∀ {g : Nat} {W : World}, Own w g 32 (oE true false a b (z.take m)) W → Calls Try.prog 17 #[.pointer (some ⟨g, 0, none⟩), .int .i64 0, .int .i64 1] W fun e' w' => e' = .returned (.tuple #[.string T, .int .i64 0]) ∧ Own w g 32 (oE true false a b (z.take m)) w' := fun {g W} h => by
    have := own_read h 0 1; rwa [(oFin true false a b _).2, (oFin true false a b _).1, hT] at this
  have s0 := stays_row hz 0
  have s1 := stays_row hz 1
  have hcl := fun (h : 0 < m) => hz.cells h
  have HCL := Lib.hid hcl
  rw [s0, s1] at hT
  clear s0 s1 hz hcl
  generalize oE true false a b (z.take m) = DE at *
  generalize cutK (oD6 true false a b) (z.take m) = DC at *
  generalize oD6 true false a b = D6 at *
  generalize oD4 a b = D4 at *
  generalize oD3 a = D3 at *
  generalize oD2 = D2 at *
  generalize oD1 = D1 at *
  have hmk : ∀ W : World, (Instr.makeSlice 40 (.int .i64 64) (.int .i64 64)).run Try.prog W = .ok (.slice (some ⟨W.heap.size, 0, none⟩) 64 64) (W.alloc (.cells (zeroCells 64) 5)) := zeros_make 64 (by omega)
  have htx := fun (W : World) => zeros_text W
  obtain ⟨Z, hZ⟩ : ∃ Z, zsec = Z := ⟨_, rfl⟩
  unfold wantK at hT
  rw [hZ] at htx hT
  obtain ⟨ZC, hZC⟩ : ∃ ZC, zeroCells 64 = ZC := ⟨_, rfl⟩
  rw [hZC] at htx hmk
  clear hZC hZ
  have b1 : ((a.size : Int) != 64) = false := by simp; omega
  have b2 : ((b.size : Int) != 64) = false := by simp; omega
  have b3 : decide ((10 : Int) < (m : Int)) = false := by simp; omega
  obtain ⟨x0, hx0⟩ : ∃ x, z.getD 0 0 = x := ⟨_, rfl⟩
  obtain ⟨x1, hx1⟩ : ∃ x, z.getD 1 0 = x := ⟨_, rfl⟩
  rw [hx0, hx1] at hT
  have HX0 := Lib.hid hx0
  have HX1 := Lib.hid hx1
  clear hx0 hx1
  have HT := Lib.hid hT
  clear hT
  go_enter Try.func6, Try.ntmps6
  go_upto_region 19 with (first
    | (go_at_call 13; refine knew.mono ?_; rintro e w0 ⟨g, rfl, h0⟩; have H1 := Lib.hid h0; clear h0)
    | (go_at_call 14; (with_reducible refine (k1 H1.out).mono ?_); rintro e w1 ⟨rfl, h1⟩; have H2 := Lib.hid h1; clear h1 H1)
    | (go_at_call 14; (with_reducible refine (k2 H2.out).mono ?_); rintro e w2 ⟨rfl, h2⟩; have H3 := Lib.hid h2; clear h2 H2)
    | (go_at_call 15; (with_reducible refine (k3 H3.out).mono ?_); rintro e w3 ⟨rfl, h3⟩; have H4 := Lib.hid h3; clear h3 H3)
    | (go_at_call 15; (with_reducible refine (k4 H4.out).mono ?_); rintro e w4 ⟨rfl, h4⟩; have H5 := Lib.hid h4; clear h4 H4)
    | (go_at_call 24; (with_reducible refine (k5 H5.out).mono ?_); rintro e w5 ⟨rfl, h5⟩; have H6 := Lib.hid h5; clear h5 H5)
    | (go_at_call 17; (with_reducible refine (k6 H6.out).mono ?_); rintro e w6 ⟨rfl, h6⟩; have H7 := Lib.hid h6; clear h6 H6)
    | (go_at_call 19; (with_reducible refine (k7 H7.out).mono ?_); rintro e w7 ⟨rfl, h7⟩; have H8 := Lib.hid h7; clear h7 H7)
    | (go_at_call 20; (with_reducible refine (k8 H8.out).mono ?_); rintro e w8 ⟨rfl, h8⟩; have H9 := Lib.hid h8; clear h8 H8)
    | (go_at_call 17; (with_reducible refine (k9 H9.out).mono ?_); rintro e w9 ⟨rfl, h9⟩; have H10 := Lib.hid h9; clear h9 H9))
  have HO := Lib.hid (H10.out.alloc (.cells ZC 5))
  clear H10
  rcases Nat.eq_zero_or_pos m with hm0 | hm0
  · subst hm0
    have d0 : decide (0 < 0) = false := rfl
    have d1 : decide (1 < 0) = false := rfl
    have hT := HT.out
    simp only [d0, d1, Bool.and_true, Bool.and_false, Bool.true_and, Bool.false_and, Bool.or_false, Bool.or_true, Bool.false_or, Bool.true_or, if_true, if_false, Bool.false_eq_true, reduceIte] at hT
    subst hT
    clear HT HCL HX0 HX1
    go_wp2_with (go_at_call 12; refine (alive_any _).mono ?_; rintro e wz ⟨rfl, hz⟩; have HZ := Lib.hid (HO.out.then_ hz); clear hz)
    go_ret
    exact ⟨ret_bool (by first | rfl | simp), HZ.out.bel⟩
  · obtain ⟨b0, off, rfl, hb0, hc0⟩ := HCL.out hm0
    have d0 : decide (0 < m) = true := by simp; omega
    have d0' : decide ((0 : Int) < (m : Int)) = true := by simp; omega
    have y0 : (w9.alloc (.cells ZC 5)).cell? ⟨b0, off + 0, none⟩ = some (.int .i64 x0) := by rw [← HX0.out]; exact (HO.out.bel.cell (p := ⟨b0, off + 0, none⟩) hb0).trans (hc0 0 (by omega))
    rw [Nat.add_zero] at y0
    rcases Nat.lt_or_ge 1 m with hm1 | hm1
    · have d1 : decide (1 < m) = true := by simp; omega
      have d1' : decide ((1 : Int) < (m : Int)) = true := by simp; omega
      have y1 : (w9.alloc (.cells ZC 5)).cell? ⟨b0, off + 1, none⟩ = some (.int .i64 x1) := by rw [← HX1.out]; exact (HO.out.bel.cell (p := ⟨b0, off + 1, none⟩) hb0).trans (hc0 1 (by omega))
      clear hb0 hc0
      cases o0 : oddB x0 <;> cases o1 : oddB x1
      · have p0 : (bits BinOp.and IntKind.i64 x0 1 == 1) = false := o0
        have p1 : (bits BinOp.and IntKind.i64 x1 1 == 1) = false := o1
        have hT := HT.out
        simp only [d0, d1, o0, o1, Bool.and_true, Bool.and_false, Bool.true_and, Bool.false_and, Bool.or_false, Bool.or_true, Bool.false_or, Bool.true_or, if_true, if_false, Bool.false_eq_true, reduceIte] at hT
        subst hT
        clear HT HCL HX0 HX1
        go_wp2_with (go_at_call 12; refine (alive_any _).mono ?_; rintro e wz ⟨rfl, hz⟩; have HZ := Lib.hid (HO.out.then_ hz); clear hz)
        go_ret
        exact ⟨ret_bool (by first | rfl | simp), HZ.out.bel⟩
      · have p0 : (bits BinOp.and IntKind.i64 x0 1 == 1) = false := o0
        have p1 : (bits BinOp.and IntKind.i64 x1 1 == 1) = true := o1
        have hT := HT.out
        simp only [d0, d1, o0, o1, Bool.and_true, Bool.and_false, Bool.true_and, Bool.false_and, Bool.or_false, Bool.or_true, Bool.false_or, Bool.true_or, if_true, if_false, Bool.false_eq_true, reduceIte] at hT
        subst hT
        clear HT HCL HX0 HX1
        go_wp2_with (go_at_call 12; refine (alive_any _).mono ?_; rintro e wz ⟨rfl, hz⟩; have HZ := Lib.hid (HO.out.then_ hz); clear hz)
        go_ret
        exact ⟨ret_bool (by first | rfl | simp), HZ.out.bel⟩
      · have p0 : (bits BinOp.and IntKind.i64 x0 1 == 1) = true := o0
        have p1 : (bits BinOp.and IntKind.i64 x1 1 == 1) = false := o1
        have hT := HT.out
        simp only [d0, d1, o0, o1, Bool.and_true, Bool.and_false, Bool.true_and, Bool.false_and, Bool.or_false, Bool.or_true, Bool.false_or, Bool.true_or, if_true, if_false, Bool.false_eq_true, reduceIte] at hT
        subst hT
        clear HT HCL HX0 HX1
        go_wp2_with (go_at_call 12; refine (alive_any _).mono ?_; rintro e wz ⟨rfl, hz⟩; have HZ := Lib.hid (HO.out.then_ hz); clear hz)
        go_ret
        exact ⟨ret_bool (by first | rfl | simp), HZ.out.bel⟩
      · have p0 : (bits BinOp.and IntKind.i64 x0 1 == 1) = true := o0
        have p1 : (bits BinOp.and IntKind.i64 x1 1 == 1) = true := o1
        have hT := HT.out
        simp only [d0, d1, o0, o1, Bool.and_true, Bool.and_false, Bool.true_and, Bool.false_and, Bool.or_false, Bool.or_true, Bool.false_or, Bool.true_or, if_true, if_false, Bool.false_eq_true, reduceIte] at hT
        subst hT
        clear HT HCL HX0 HX1
        go_wp2_with (go_at_call 12; refine (alive_any _).mono ?_; rintro e wz ⟨rfl, hz⟩; have HZ := Lib.hid (HO.out.then_ hz); clear hz)
        go_ret
        exact ⟨ret_bool (by first | rfl | simp), HZ.out.bel⟩
    · have d1 : decide (1 < m) = false := by simp; omega
      have d1' : decide ((1 : Int) < (m : Int)) = false := by simp; omega
      clear hb0 hc0
      cases o0 : oddB x0
      · have p0 : (bits BinOp.and IntKind.i64 x0 1 == 1) = false := o0
        have hT := HT.out
        simp only [d0, d1, o0, Bool.and_true, Bool.and_false, Bool.true_and, Bool.false_and, Bool.or_false, Bool.or_true, Bool.false_or, Bool.true_or, if_true, if_false, Bool.false_eq_true, reduceIte] at hT
        subst hT
        clear HT HCL HX0 HX1
        go_wp2_with (go_at_call 12; refine (alive_any _).mono ?_; rintro e wz ⟨rfl, hz⟩; have HZ := Lib.hid (HO.out.then_ hz); clear hz)
        go_ret
        exact ⟨ret_bool (by first | rfl | simp), HZ.out.bel⟩
      · have p0 : (bits BinOp.and IntKind.i64 x0 1 == 1) = true := o0
        have hT := HT.out
        simp only [d0, d1, o0, Bool.and_true, Bool.and_false, Bool.true_and, Bool.false_and, Bool.or_false, Bool.or_true, Bool.false_or, Bool.true_or, if_true, if_false, Bool.false_eq_true, reduceIte] at hT
        subst hT
        clear HT HCL HX0 HX1
        go_wp2_with (go_at_call 12; refine (alive_any _).mono ?_; rintro e wz ⟨rfl, hz⟩; have HZ := Lib.hid (HO.out.then_ hz); clear hz)
        go_ret
        exact ⟨ret_bool (by first | rfl | simp), HZ.out.bel⟩
set_option maxHeartbeats 4000000 in
set_option maxRecDepth 100000 in
theorem walk_true_true (a b : ByteArray) (A : Option Addr) (m c : Nat) (z : List Int) (w : World) (hA : a.size = 64) (hB : b.size = 64) (hm : m ≤ 10) (hz : IsRow .i64 w A m c z) :
    Calls Try.prog 6 #[.string a, .string b, .bool true, .bool true, .slice A m c] w fun e w' => e = .returned (.bool true) ∧ Below w.heap.size w w' := by
  have knew := own_new w (belowSame w) 2 (by omega) (by omega)
  obtain ⟨T, hT⟩ : ∃ T, wantK true true (staysB (z.take m) 0) (staysB (z.take m) 1) a b = T := ⟨_, rfl⟩
  have k1 : ∀ {g : Nat} {W : World}, Own w g 0 (newK 2) W → Calls Try.prog 14 #[.pointer (some ⟨g, 0, none⟩), .int .i64 1, .int .u64 1] W fun e' w' => e' = .returned (.int .i64 0) ∧ Own w g 0 (oD1) w' := fun {g W} h => by
    have := own_admit h 1 1 (by omega); rwa [oD1_eq.1] at this
  have k2 : ∀ {g : Nat} {W : World}, Own w g 0 (oD1) W → Calls Try.prog 14 #[.pointer (some ⟨g, 0, none⟩), .int .i64 2, .int .u64 2] W fun e' w' => e' = .returned (.int .i64 0) ∧ Own w g 0 (oD2) w' := fun {g W} h => by
    have := own_admit h 2 2 (by omega); rwa [oD2_eq.1] at this
  have k3 : ∀ {g : Nat} {W : World}, Own w g 0 (oD2) W → Calls Try.prog 15 #[.pointer (some ⟨g, 0, none⟩), .int .i64 1, .int .u64 1, .int .i64 0, .string a] W fun e' w' => e' = .returned (.int .i64 0) ∧ Own w g 16 (oD3 a) w' := fun {g W} h => by
    have := own_write h 1 1 0 a (by omega) (by omega); rwa [(oD3_eq a hA).1, (oD3_eq a hA).2] at this
  have k4 : ∀ {g : Nat} {W : World}, Own w g 16 (oD3 a) W → Calls Try.prog 15 #[.pointer (some ⟨g, 0, none⟩), .int .i64 2, .int .u64 2, .int .i64 0, .string b] W fun e' w' => e' = .returned (.int .i64 0) ∧ Own w g 32 (oD4 a b) w' := fun {g W} h => by
    have := own_write h 2 2 0 b (by omega) (by omega); rwa [(oD4_eq a b hB).1, (oD4_eq a b hB).2] at this
  have k5 : ∀ {g : Nat} {W : World}, Own w g 32 (oD4 a b) W → Calls Try.prog 24 #[.pointer (some ⟨g, 0, none⟩), .int .i64 2, .int .u64 2] W fun e' w' => e' = .returned (.int .i64 0) ∧ Own w g 32 (oD5 true a b) w' := fun {g W} h => by
    have := own_barrier h 2 2 (by omega); rwa [oD5_eq.1, oD5_eq.2] at this
  have k6 : ∀ {g : Nat} {W : World}, Own w g 32 (oD5 true a b) W → Calls Try.prog 24 #[.pointer (some ⟨g, 0, none⟩), .int .i64 1, .int .u64 1] W fun e' w' => e' = .returned (.int .i64 0) ∧ Own w g 32 (oD6 true true a b) w' := fun {g W} h => by
    have h' : Own w g 32 (oD5 true a b) W := h; have := own_barrier h' 1 1 (by omega); rw [(oD6_eq true a b).1, (oD6_eq true a b).2] at this; exact this
  have k7 : ∀ {g : Nat} {W : World}, Own w g 32 (oD6 true true a b) W → Calls Try.prog 17 #[.pointer (some ⟨g, 0, none⟩), .int .i64 0, .int .i64 1] W fun e' w' => e' = .returned (.tuple #[.string b, .int .i64 0]) ∧ Own w g 32 (oD6 true true a b) w' := fun {g W} h => by
    have h' : Own w g 32 (oD6 true true a b) W := h; have := own_read h' 0 1; rw [(oRead true true a b).2, (oRead true true a b).1] at this; exact this
  have k8 : ∀ {g : Nat} {W : World}, Own w g 32 (oD6 true true a b) W → Calls Try.prog 19 #[.pointer (some ⟨g, 0, none⟩), .slice A m c] W fun e' w' => e' = .returned (.int .i64 0) ∧ Own w g 32 (cutK (oD6 true true a b) (z.take m)) w' := fun {g W} h => by
    exact own_cut_row h hz (by omega)
  have k9 : ∀ {g : Nat} {W : World}, Own w g 32 (cutK (oD6 true true a b) (z.take m)) W → Calls Try.prog 20 #[.pointer (some ⟨g, 0, none⟩)] W fun e' w' => e' = .returned (.tuple #[]) ∧ Own w g 32 (oE true true a b (z.take m)) w' := fun {g W} h => by
    exact own_restore h
  have k10 : ∀ {g : Nat} {W : World}, Own w g 32 (oE true true a b (z.take m)) W → Calls Try.prog 17 #[.pointer (some ⟨g, 0, none⟩), .int .i64 0, .int .i64 1] W fun e' w' => e' = .returned (.tuple #[.string T, .int .i64 0]) ∧ Own w g 32 (oE true true a b (z.take m)) w' := fun {g W} h => by
    have := own_read h 0 1; rwa [(oFin true true a b _).2, (oFin true true a b _).1, hT] at this
  have s0 := stays_row hz 0
  have s1 := stays_row hz 1
  have hcl := fun (h : 0 < m) => hz.cells h
  have HCL := Lib.hid hcl
  rw [s0, s1] at hT
  clear s0 s1 hz hcl
  generalize oE true true a b (z.take m) = DE at *
  generalize cutK (oD6 true true a b) (z.take m) = DC at *
  generalize oD6 true true a b = D6 at *
  generalize oD5 true a b = D5 at *
  generalize oD4 a b = D4 at *
  generalize oD3 a = D3 at *
  generalize oD2 = D2 at *
  generalize oD1 = D1 at *
  have hmk : ∀ W : World, (Instr.makeSlice 40 (.int .i64 64) (.int .i64 64)).run Try.prog W = .ok (.slice (some ⟨W.heap.size, 0, none⟩) 64 64) (W.alloc (.cells (zeroCells 64) 5)) := zeros_make 64 (by omega)
  have htx := fun (W : World) => zeros_text W
  obtain ⟨Z, hZ⟩ : ∃ Z, zsec = Z := ⟨_, rfl⟩
  unfold wantK at hT
  rw [hZ] at htx hT
  obtain ⟨ZC, hZC⟩ : ∃ ZC, zeroCells 64 = ZC := ⟨_, rfl⟩
  rw [hZC] at htx hmk
  clear hZC hZ
  have b1 : ((a.size : Int) != 64) = false := by simp; omega
  have b2 : ((b.size : Int) != 64) = false := by simp; omega
  have b3 : decide ((10 : Int) < (m : Int)) = false := by simp; omega
  obtain ⟨x0, hx0⟩ : ∃ x, z.getD 0 0 = x := ⟨_, rfl⟩
  obtain ⟨x1, hx1⟩ : ∃ x, z.getD 1 0 = x := ⟨_, rfl⟩
  rw [hx0, hx1] at hT
  have HX0 := Lib.hid hx0
  have HX1 := Lib.hid hx1
  clear hx0 hx1
  have HT := Lib.hid hT
  clear hT
  go_enter Try.func6, Try.ntmps6
  go_upto_region 19 with (first
    | (go_at_call 13; refine knew.mono ?_; rintro e w0 ⟨g, rfl, h0⟩; have H1 := Lib.hid h0; clear h0)
    | (go_at_call 14; (with_reducible refine (k1 H1.out).mono ?_); rintro e w1 ⟨rfl, h1⟩; have H2 := Lib.hid h1; clear h1 H1)
    | (go_at_call 14; (with_reducible refine (k2 H2.out).mono ?_); rintro e w2 ⟨rfl, h2⟩; have H3 := Lib.hid h2; clear h2 H2)
    | (go_at_call 15; (with_reducible refine (k3 H3.out).mono ?_); rintro e w3 ⟨rfl, h3⟩; have H4 := Lib.hid h3; clear h3 H3)
    | (go_at_call 15; (with_reducible refine (k4 H4.out).mono ?_); rintro e w4 ⟨rfl, h4⟩; have H5 := Lib.hid h4; clear h4 H4)
    | (go_at_call 24; (with_reducible refine (k5 H5.out).mono ?_); rintro e w5 ⟨rfl, h5⟩; have H6 := Lib.hid h5; clear h5 H5)
    | (go_at_call 24; (with_reducible refine (k6 H6.out).mono ?_); rintro e w6 ⟨rfl, h6⟩; have H7 := Lib.hid h6; clear h6 H6)
    | (go_at_call 17; (with_reducible refine (k7 H7.out).mono ?_); rintro e w7 ⟨rfl, h7⟩; have H8 := Lib.hid h7; clear h7 H7)
    | (go_at_call 19; (with_reducible refine (k8 H8.out).mono ?_); rintro e w8 ⟨rfl, h8⟩; have H9 := Lib.hid h8; clear h8 H8)
    | (go_at_call 20; (with_reducible refine (k9 H9.out).mono ?_); rintro e w9 ⟨rfl, h9⟩; have H10 := Lib.hid h9; clear h9 H9)
    | (go_at_call 17; (with_reducible refine (k10 H10.out).mono ?_); rintro e w10 ⟨rfl, h10⟩; have H11 := Lib.hid h10; clear h10 H10))
  have HO := Lib.hid (H11.out.alloc (.cells ZC 5))
  clear H11
  rcases Nat.eq_zero_or_pos m with hm0 | hm0
  · subst hm0
    have d0 : decide (0 < 0) = false := rfl
    have d1 : decide (1 < 0) = false := rfl
    have hT := HT.out
    simp only [d0, d1, Bool.and_true, Bool.and_false, Bool.true_and, Bool.false_and, Bool.or_false, Bool.or_true, Bool.false_or, Bool.true_or, if_true, if_false, Bool.false_eq_true, reduceIte] at hT
    subst hT
    clear HT HCL HX0 HX1
    go_wp2_with (go_at_call 12; refine (alive_any _).mono ?_; rintro e wz ⟨rfl, hz⟩; have HZ := Lib.hid (HO.out.then_ hz); clear hz)
    go_ret
    exact ⟨ret_bool (by first | rfl | simp), HZ.out.bel⟩
  · obtain ⟨b0, off, rfl, hb0, hc0⟩ := HCL.out hm0
    have d0 : decide (0 < m) = true := by simp; omega
    have d0' : decide ((0 : Int) < (m : Int)) = true := by simp; omega
    have y0 : (w10.alloc (.cells ZC 5)).cell? ⟨b0, off + 0, none⟩ = some (.int .i64 x0) := by rw [← HX0.out]; exact (HO.out.bel.cell (p := ⟨b0, off + 0, none⟩) hb0).trans (hc0 0 (by omega))
    rw [Nat.add_zero] at y0
    rcases Nat.lt_or_ge 1 m with hm1 | hm1
    · have d1 : decide (1 < m) = true := by simp; omega
      have d1' : decide ((1 : Int) < (m : Int)) = true := by simp; omega
      have y1 : (w10.alloc (.cells ZC 5)).cell? ⟨b0, off + 1, none⟩ = some (.int .i64 x1) := by rw [← HX1.out]; exact (HO.out.bel.cell (p := ⟨b0, off + 1, none⟩) hb0).trans (hc0 1 (by omega))
      clear hb0 hc0
      cases o0 : oddB x0 <;> cases o1 : oddB x1
      · have p0 : (bits BinOp.and IntKind.i64 x0 1 == 1) = false := o0
        have p1 : (bits BinOp.and IntKind.i64 x1 1 == 1) = false := o1
        have hT := HT.out
        simp only [d0, d1, o0, o1, Bool.and_true, Bool.and_false, Bool.true_and, Bool.false_and, Bool.or_false, Bool.or_true, Bool.false_or, Bool.true_or, if_true, if_false, Bool.false_eq_true, reduceIte] at hT
        subst hT
        clear HT HCL HX0 HX1
        go_wp2_with (go_at_call 12; refine (alive_any _).mono ?_; rintro e wz ⟨rfl, hz⟩; have HZ := Lib.hid (HO.out.then_ hz); clear hz)
        go_ret
        exact ⟨ret_bool (by first | rfl | simp), HZ.out.bel⟩
      · have p0 : (bits BinOp.and IntKind.i64 x0 1 == 1) = false := o0
        have p1 : (bits BinOp.and IntKind.i64 x1 1 == 1) = true := o1
        have hT := HT.out
        simp only [d0, d1, o0, o1, Bool.and_true, Bool.and_false, Bool.true_and, Bool.false_and, Bool.or_false, Bool.or_true, Bool.false_or, Bool.true_or, if_true, if_false, Bool.false_eq_true, reduceIte] at hT
        subst hT
        clear HT HCL HX0 HX1
        go_wp2_with (go_at_call 12; refine (alive_any _).mono ?_; rintro e wz ⟨rfl, hz⟩; have HZ := Lib.hid (HO.out.then_ hz); clear hz)
        go_ret
        exact ⟨ret_bool (by first | rfl | simp), HZ.out.bel⟩
      · have p0 : (bits BinOp.and IntKind.i64 x0 1 == 1) = true := o0
        have p1 : (bits BinOp.and IntKind.i64 x1 1 == 1) = false := o1
        have hT := HT.out
        simp only [d0, d1, o0, o1, Bool.and_true, Bool.and_false, Bool.true_and, Bool.false_and, Bool.or_false, Bool.or_true, Bool.false_or, Bool.true_or, if_true, if_false, Bool.false_eq_true, reduceIte] at hT
        subst hT
        clear HT HCL HX0 HX1
        go_wp2_with (go_at_call 12; refine (alive_any _).mono ?_; rintro e wz ⟨rfl, hz⟩; have HZ := Lib.hid (HO.out.then_ hz); clear hz)
        go_ret
        exact ⟨ret_bool (by first | rfl | simp), HZ.out.bel⟩
      · have p0 : (bits BinOp.and IntKind.i64 x0 1 == 1) = true := o0
        have p1 : (bits BinOp.and IntKind.i64 x1 1 == 1) = true := o1
        have hT := HT.out
        simp only [d0, d1, o0, o1, Bool.and_true, Bool.and_false, Bool.true_and, Bool.false_and, Bool.or_false, Bool.or_true, Bool.false_or, Bool.true_or, if_true, if_false, Bool.false_eq_true, reduceIte] at hT
        subst hT
        clear HT HCL HX0 HX1
        go_wp2_with (go_at_call 12; refine (alive_any _).mono ?_; rintro e wz ⟨rfl, hz⟩; have HZ := Lib.hid (HO.out.then_ hz); clear hz)
        go_ret
        exact ⟨ret_bool (by first | rfl | simp), HZ.out.bel⟩
    · have d1 : decide (1 < m) = false := by simp; omega
      have d1' : decide ((1 : Int) < (m : Int)) = false := by simp; omega
      clear hb0 hc0
      cases o0 : oddB x0
      · have p0 : (bits BinOp.and IntKind.i64 x0 1 == 1) = false := o0
        have hT := HT.out
        simp only [d0, d1, o0, Bool.and_true, Bool.and_false, Bool.true_and, Bool.false_and, Bool.or_false, Bool.or_true, Bool.false_or, Bool.true_or, if_true, if_false, Bool.false_eq_true, reduceIte] at hT
        subst hT
        clear HT HCL HX0 HX1
        go_wp2_with (go_at_call 12; refine (alive_any _).mono ?_; rintro e wz ⟨rfl, hz⟩; have HZ := Lib.hid (HO.out.then_ hz); clear hz)
        go_ret
        exact ⟨ret_bool (by first | rfl | simp), HZ.out.bel⟩
      · have p0 : (bits BinOp.and IntKind.i64 x0 1 == 1) = true := o0
        have hT := HT.out
        simp only [d0, d1, o0, Bool.and_true, Bool.and_false, Bool.true_and, Bool.false_and, Bool.or_false, Bool.or_true, Bool.false_or, Bool.true_or, if_true, if_false, Bool.false_eq_true, reduceIte] at hT
        subst hT
        clear HT HCL HX0 HX1
        go_wp2_with (go_at_call 12; refine (alive_any _).mono ?_; rintro e wz ⟨rfl, hz⟩; have HZ := Lib.hid (HO.out.then_ hz); clear hz)
        go_ret
        exact ⟨ret_bool (by first | rfl | simp), HZ.out.bel⟩
set_option maxHeartbeats 4000000 in
set_option maxRecDepth 100000 in
theorem walk (a b : ByteArray) (f s : Bool) (A : Option Addr) (m c : Nat) (z : List Int) (w : World) (g0 : a.size ≤ maxLen) (g1 : b.size ≤ maxLen) (hz : IsRow .i64 w A m c z) :
    Calls Try.prog 6 #[.string a, .string b, .bool f, .bool s, .slice A m c] w fun e w' => e = .returned (.bool true) ∧ Below w.heap.size w w' := by
  by_cases hA : a.size = 64
  · by_cases hB : b.size = 64
    · by_cases hm : m ≤ 10
      · cases f <;> cases s
        · exact walk_false_false a b A m c z w hA hB hm hz
        · exact walk_false_true a b A m c z w hA hB hm hz
        · exact walk_true_false a b A m c z w hA hB hm hz
        · exact walk_true_true a b A m c z w hA hB hm hz
      · have b1 : ((a.size : Int) != 64) = false := by simp; omega
        have b2 : ((b.size : Int) != 64) = false := by simp; omega
        have b3 : decide ((10 : Int) < (m : Int)) = true := by simp; omega
        clear hz
        go_enter Try.func6, Try.ntmps6
        go_wp2_with (go_at_call 12; refine (alive_any _).mono ?_; rintro e w1 ⟨rfl, hb⟩)
        go_ret
        exact ⟨rfl, hb⟩
    · have b1 : ((a.size : Int) != 64) = false := by simp; omega
      have b2 : ((b.size : Int) != 64) = true := by simp; omega
      clear hz
      go_enter Try.func6, Try.ntmps6
      go_wp2_with (go_at_call 12; refine (alive_any _).mono ?_; rintro e w1 ⟨rfl, hb⟩)
      go_ret
      exact ⟨rfl, hb⟩
  · have b1 : ((a.size : Int) != 64) = true := by simp; omega
    clear hz
    go_enter Try.func6, Try.ntmps6
    go_wp2_with (go_at_call 12; refine (alive_any _).mono ?_; rintro e w1 ⟨rfl, hb⟩)
    go_ret
    exact ⟨rfl, hb⟩
end Go.Proofs.Ytlnomfaaldjnpaa.diskOrder
