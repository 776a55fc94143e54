/- DiskBarriers: the walk. No condition. -/
import Derived.Test.YtlnomfaaldjnpaaDkEval
import Derived.Deep.CutBlock
import Derived.Deep.Cut
namespace Go.Proofs.Ytlnomfaaldjnpaa.diskBarriers
open Go.RowKit Go.Proofs.Ytlnomfaaldjnpaa.DK
set_option linter.unusedVariables false
set_option linter.unusedSimpArgs false

def bD1 : Dk := admitK (newK 4) 1 1
def bD2 : Dk := admitK bD1 2 2
def bD3 (a : ByteArray) : Dk := oneK bD2 1 0 a
def bD4 (a b : ByteArray) : Dk := oneK (bD3 a) 2 1 b
def bD5 (a b : ByteArray) : Dk := settleK (bD4 a b) 2
def bD6 (a b : ByteArray) : Dk := settleK (bD5 a b) 1
theorem bD1_eq : admitE (newK 4) 1 1 = 0 ∧ admitK (newK 4) 1 1 = bD1 := ⟨by kernel_rfl, rfl⟩
theorem bD2_eq : admitE bD1 2 2 = 0 ∧ admitK bD1 2 2 = bD2 := ⟨by kernel_rfl, rfl⟩
theorem bD3_eq (a : ByteArray) (h : a.size = 64) : writeE bD2 1 1 0 a = 0 ∧ writeK bD2 1 1 0 a = bD3 a := write_one (by kernel_rfl) (by kernel_rfl) (by kernel_rfl) (by kernel_rfl) (by decide) h (by decide) (by decide +kernel)
theorem bD4_eq (a b : ByteArray) (h : b.size = 64) : writeE (bD3 a) 2 2 1 b = 0 ∧ writeK (bD3 a) 2 2 1 b = bD4 a b := write_one (by kernel_rfl) (by kernel_rfl) (by kernel_rfl) (by kernel_rfl) (by decide) h (by decide) (of_decide_eq_true (by kernel_rfl))
theorem bD5_eq {a b : ByteArray} : barrierE (bD4 a b) 2 2 = 0 ∧ barrierK (bD4 a b) 2 2 = bD5 a b := ⟨by kernel_rfl, by kernel_rfl⟩
theorem bD6_eq {a b : ByteArray} : barrierE (bD5 a b) 1 1 = 0 ∧ barrierK (bD5 a b) 1 1 = bD6 a b := ⟨by kernel_rfl, by kernel_rfl⟩
theorem rt0 (a b : ByteArray) : readE (restoreK (cutK (bD6 a b) [])) 0 1 = 0 ∧ readT (restoreK (cutK (bD6 a b) [])) 0 1 = a := read_one (by kernel_rfl) (by kernel_rfl)
theorem rt1 (a b : ByteArray) : readE (restoreK (cutK (bD6 a b) [])) 1 1 = 0 ∧ readT (restoreK (cutK (bD6 a b) [])) 1 1 = b := read_one (by kernel_rfl) (by kernel_rfl)
theorem rf0 (a b : ByteArray) : readE (restoreK (cutK (bD5 a b) [])) 0 1 = 0 ∧ readT (restoreK (cutK (bD5 a b) [])) 0 1 = zsec := read_one (by kernel_rfl) (by kernel_rfl)
theorem rf1 (a b : ByteArray) : readE (restoreK (cutK (bD5 a b) [])) 1 1 = 0 ∧ readT (restoreK (cutK (bD5 a b) [])) 1 1 = b := read_one (by kernel_rfl) (by kernel_rfl)

set_option maxHeartbeats 4000000 in
set_option maxRecDepth 100000 in
theorem walk_true (a b : ByteArray) (w : World) (hA : a.size = 64) (hB : b.size = 64) :
    Calls Try.prog 9 #[.string a, .string b, .bool true] w fun e w' => e = .returned (.bool true) ∧ Below w.heap.size w w' := by
  have knew := own_new w (belowSame w) 4 (by omega) (by omega)
  have k1 : ∀ {g : Nat} {W : World}, Own w g 0 (newK 4) W → Calls Try.prog 14 #[.pointer (some ⟨g, 0, none⟩), .int .i64 1, .int .u64 1] W fun e' w' => e' = .returned (.int .i64 0) ∧ Own w g 0 (bD1) w' := fun {g W} h => by
    have := own_admit h 1 1 (by omega); rwa [bD1_eq.1] at this
  have k2 : ∀ {g : Nat} {W : World}, Own w g 0 (bD1) W → Calls Try.prog 14 #[.pointer (some ⟨g, 0, none⟩), .int .i64 2, .int .u64 2] W fun e' w' => e' = .returned (.int .i64 0) ∧ Own w g 0 (bD2) w' := fun {g W} h => by
    have := own_admit h 2 2 (by omega); rwa [bD2_eq.1] at this
  have k3 : ∀ {g : Nat} {W : World}, Own w g 0 (bD2) W → Calls Try.prog 15 #[.pointer (some ⟨g, 0, none⟩), .int .i64 1, .int .u64 1, .int .i64 0, .string a] W fun e' w' => e' = .returned (.int .i64 0) ∧ Own w g 16 (bD3 a) w' := fun {g W} h => by
    have := own_write h 1 1 0 a (by omega) (by omega); rwa [(bD3_eq a hA).1, (bD3_eq a hA).2] at this
  have k4 : ∀ {g : Nat} {W : World}, Own w g 16 (bD3 a) W → Calls Try.prog 15 #[.pointer (some ⟨g, 0, none⟩), .int .i64 2, .int .u64 2, .int .i64 1, .string b] W fun e' w' => e' = .returned (.int .i64 0) ∧ Own w g 32 (bD4 a b) w' := fun {g W} h => by
    have := own_write h 2 2 1 b (by omega) (by omega); rwa [(bD4_eq a b hB).1, (bD4_eq a b hB).2] at this
  have k5 : ∀ {g : Nat} {W : World}, Own w g 32 (bD4 a b) W → Calls Try.prog 24 #[.pointer (some ⟨g, 0, none⟩), .int .i64 2, .int .u64 2] W fun e' w' => e' = .returned (.int .i64 0) ∧ Own w g 32 (bD5 a b) w' := fun {g W} h => by
    have := own_barrier h 2 2 (by omega); rwa [bD5_eq.1, bD5_eq.2] at this
  have k6 : ∀ {g : Nat} {W : World}, Own w g 32 (bD5 a b) W → Calls Try.prog 24 #[.pointer (some ⟨g, 0, none⟩), .int .i64 1, .int .u64 1] W fun e' w' => e' = .returned (.int .i64 0) ∧ Own w g 32 (bD6 a b) w' := fun {g W} h => by
    have := own_barrier h 1 1 (by omega); rwa [bD6_eq.1, bD6_eq.2] at this
  have k7 : ∀ {g : Nat} {W : World}, Own w g 32 (bD6 a b) W → Calls Try.prog 29 #[.pointer (some ⟨g, 0, none⟩), .int .i64 1] W fun e' w' => e' = .returned (.int .i64 0) ∧ Own w g 32 (bD6 a b) w' := fun {g W} h => by
    exact own_waiting h 1 (by omega)
  have k8 : ∀ {g : Nat} {W : World}, Own w g 32 (bD6 a b) W → Calls Try.prog 29 #[.pointer (some ⟨g, 0, none⟩), .int .i64 2] W fun e' w' => e' = .returned (.int .i64 0) ∧ Own w g 32 (bD6 a b) w' := fun {g W} h => by
    exact own_waiting h 2 (by omega)
  have k9 : ∀ {g : Nat} {W : World}, Own w g 32 (bD6 a b) W → Calls Try.prog 19 #[.pointer (some ⟨g, 0, none⟩), .slice none 0 0] W fun e' w' => e' = .returned (.int .i64 0) ∧ Own w g 32 (cutK (bD6 a b) []) w' := fun {g W} h => by
    exact own_cut_none h (by omega)
  have k10 : ∀ {g : Nat} {W : World}, Own w g 32 (cutK (bD6 a b) []) W → Calls Try.prog 20 #[.pointer (some ⟨g, 0, none⟩)] W fun e' w' => e' = .returned (.tuple #[]) ∧ Own w g 32 (restoreK (cutK (bD6 a b) [])) w' := fun {g W} h => by
    exact own_restore h
  have k11 : ∀ {g : Nat} {W : World}, Own w g 32 (restoreK (cutK (bD6 a b) [])) W → Calls Try.prog 17 #[.pointer (some ⟨g, 0, none⟩), .int .i64 0, .int .i64 1] W fun e' w' => e' = .returned (.tuple #[.string a, .int .i64 0]) ∧ Own w g 32 (restoreK (cutK (bD6 a b) [])) w' := fun {g W} h => by
    have := own_read h 0 1; rwa [(rt0 a b).2, (rt0 a b).1] at this
  have k12 : ∀ {g : Nat} {W : World}, Own w g 32 (restoreK (cutK (bD6 a b) [])) W → Calls Try.prog 17 #[.pointer (some ⟨g, 0, none⟩), .int .i64 1, .int .i64 1] W fun e' w' => e' = .returned (.tuple #[.string b, .int .i64 0]) ∧ Own w g 32 (restoreK (cutK (bD6 a b) [])) w' := fun {g W} h => by
    have := own_read h 1 1; rwa [(rt1 a b).2, (rt1 a b).1] at this
  generalize restoreK (cutK (bD6 a b) []) = DE at *
  generalize cutK (bD6 a b) [] = DC at *
  generalize bD6 a b = D6 at *
  generalize bD5 a b = D5 at *
  generalize bD4 a b = D4 at *
  generalize bD3 a = D3 at *
  generalize bD2 = D2 at *
  generalize bD1 = D1 at *
  have hmk : ∀ W : World, (Instr.makeSlice 40 (.int .i64 64) (.int .i64 64)).run Try.prog W = .ok (.slice (some ⟨W.heap.size, 0, none⟩) 64 64) (W.alloc (.cells (zeroCells 64) 5)) := zeros_make 64 (by omega)
  have htx := fun (W : World) => zeros_text W
  generalize zsec = Z at *
  obtain ⟨ZC, hZC⟩ : ∃ ZC, zeroCells 64 = ZC := ⟨_, rfl⟩
  rw [hZC] at htx hmk
  clear hZC
  have b1 : ((a.size : Int) != 64) = false := by simp; omega
  have b2 : ((b.size : Int) != 64) = false := by simp; omega
  go_enter Try.func9, Try.ntmps9
  go_wp2_with (first
    | (go_at_call 13; refine knew.mono ?_; rintro e w0 ⟨g, rfl, h0⟩; have H1 := Lib.hid h0; clear h0)
    | (go_at_call 14; (with_reducible refine (k1 H1.out).mono ?_); rintro e w1 ⟨rfl, h1⟩; have H2 := Lib.hid h1; clear h1 H1)
    | (go_at_call 14; (with_reducible refine (k2 H2.out).mono ?_); rintro e w2 ⟨rfl, h2⟩; have H3 := Lib.hid h2; clear h2 H2)
    | (go_at_call 15; (with_reducible refine (k3 H3.out).mono ?_); rintro e w3 ⟨rfl, h3⟩; have H4 := Lib.hid h3; clear h3 H3)
    | (go_at_call 15; (with_reducible refine (k4 H4.out).mono ?_); rintro e w4 ⟨rfl, h4⟩; have H5 := Lib.hid h4; clear h4 H4)
    | (go_at_call 24; (with_reducible refine (k5 H5.out).mono ?_); rintro e w5 ⟨rfl, h5⟩; have H6 := Lib.hid h5; clear h5 H5)
    | (go_at_call 24; (with_reducible refine (k6 H6.out).mono ?_); rintro e w6 ⟨rfl, h6⟩; have H7 := Lib.hid h6; clear h6 H6)
    | (go_at_call 29; (with_reducible refine (k7 H7.out).mono ?_); rintro e w7 ⟨rfl, h7⟩; have H8 := Lib.hid h7; clear h7 H7)
    | (go_at_call 29; (with_reducible refine (k8 H8.out).mono ?_); rintro e w8 ⟨rfl, h8⟩; have H9 := Lib.hid h8; clear h8 H8)
    | (go_at_call 19; (with_reducible refine (k9 H9.out).mono ?_); rintro e w9 ⟨rfl, h9⟩; have H10 := Lib.hid h9; clear h9 H9)
    | (go_at_call 20; (with_reducible refine (k10 H10.out).mono ?_); rintro e w10 ⟨rfl, h10⟩; have H11 := Lib.hid h10; clear h10 H10)
    | (go_at_call 17; (with_reducible refine (k11 H11.out).mono ?_); rintro e w11 ⟨rfl, h11⟩; have H12 := Lib.hid h11; clear h11 H11)
    | (go_at_call 17; (with_reducible refine (k12 H12.out).mono ?_); rintro e w12 ⟨rfl, h12⟩; have H13 := Lib.hid h12; clear h12 H12)
    | (go_at_call 12; refine (alive_any _).mono ?_; rintro e wz ⟨rfl, hz⟩; have HZ := Lib.hid ((H13.out.alloc _).then_ hz); clear hz))
  go_ret
  exact ⟨ret_bool (by first | rfl | simp), HZ.out.bel⟩

set_option maxHeartbeats 4000000 in
set_option maxRecDepth 100000 in
theorem walk_false (a b : ByteArray) (w : World) (hA : a.size = 64) (hB : b.size = 64) :
    Calls Try.prog 9 #[.string a, .string b, .bool false] w fun e w' => e = .returned (.bool true) ∧ Below w.heap.size w w' := by
  have knew := own_new w (belowSame w) 4 (by omega) (by omega)
  have k1 : ∀ {g : Nat} {W : World}, Own w g 0 (newK 4) W → Calls Try.prog 14 #[.pointer (some ⟨g, 0, none⟩), .int .i64 1, .int .u64 1] W fun e' w' => e' = .returned (.int .i64 0) ∧ Own w g 0 (bD1) w' := fun {g W} h => by
    have := own_admit h 1 1 (by omega); rwa [bD1_eq.1] at this
  have k2 : ∀ {g : Nat} {W : World}, Own w g 0 (bD1) W → Calls Try.prog 14 #[.pointer (some ⟨g, 0, none⟩), .int .i64 2, .int .u64 2] W fun e' w' => e' = .returned (.int .i64 0) ∧ Own w g 0 (bD2) w' := fun {g W} h => by
    have := own_admit h 2 2 (by omega); rwa [bD2_eq.1] at this
  have k3 : ∀ {g : Nat} {W : World}, Own w g 0 (bD2) W → Calls Try.prog 15 #[.pointer (some ⟨g, 0, none⟩), .int .i64 1, .int .u64 1, .int .i64 0, .string a] W fun e' w' => e' = .returned (.int .i64 0) ∧ Own w g 16 (bD3 a) w' := fun {g W} h => by
    have := own_write h 1 1 0 a (by omega) (by omega); rwa [(bD3_eq a hA).1, (bD3_eq a hA).2] at this
  have k4 : ∀ {g : Nat} {W : World}, Own w g 16 (bD3 a) W → Calls Try.prog 15 #[.pointer (some ⟨g, 0, none⟩), .int .i64 2, .int .u64 2, .int .i64 1, .string b] W fun e' w' => e' = .returned (.int .i64 0) ∧ Own w g 32 (bD4 a b) w' := fun {g W} h => by
    have := own_write h 2 2 1 b (by omega) (by omega); rwa [(bD4_eq a b hB).1, (bD4_eq a b hB).2] at this
  have k5 : ∀ {g : Nat} {W : World}, Own w g 32 (bD4 a b) W → Calls Try.prog 24 #[.pointer (some ⟨g, 0, none⟩), .int .i64 2, .int .u64 2] W fun e' w' => e' = .returned (.int .i64 0) ∧ Own w g 32 (bD5 a b) w' := fun {g W} h => by
    have := own_barrier h 2 2 (by omega); rwa [bD5_eq.1, bD5_eq.2] at this
  have k6 : ∀ {g : Nat} {W : World}, Own w g 32 (bD5 a b) W → Calls Try.prog 29 #[.pointer (some ⟨g, 0, none⟩), .int .i64 1] W fun e' w' => e' = .returned (.int .i64 1) ∧ Own w g 32 (bD5 a b) w' := fun {g W} h => by
    exact own_waiting h 1 (by omega)
  have k7 : ∀ {g : Nat} {W : World}, Own w g 32 (bD5 a b) W → Calls Try.prog 29 #[.pointer (some ⟨g, 0, none⟩), .int .i64 2] W fun e' w' => e' = .returned (.int .i64 0) ∧ Own w g 32 (bD5 a b) w' := fun {g W} h => by
    exact own_waiting h 2 (by omega)
  have k8 : ∀ {g : Nat} {W : World}, Own w g 32 (bD5 a b) W → Calls Try.prog 19 #[.pointer (some ⟨g, 0, none⟩), .slice none 0 0] W fun e' w' => e' = .returned (.int .i64 1) ∧ Own w g 32 (cutK (bD5 a b) []) w' := fun {g W} h => by
    exact own_cut_none h (by omega)
  have k9 : ∀ {g : Nat} {W : World}, Own w g 32 (cutK (bD5 a b) []) W → Calls Try.prog 20 #[.pointer (some ⟨g, 0, none⟩)] W fun e' w' => e' = .returned (.tuple #[]) ∧ Own w g 32 (restoreK (cutK (bD5 a b) [])) w' := fun {g W} h => by
    exact own_restore h
  have k10 : ∀ {g : Nat} {W : World}, Own w g 32 (restoreK (cutK (bD5 a b) [])) W → Calls Try.prog 17 #[.pointer (some ⟨g, 0, none⟩), .int .i64 0, .int .i64 1] W fun e' w' => e' = .returned (.tuple #[.string zsec, .int .i64 0]) ∧ Own w g 32 (restoreK (cutK (bD5 a b) [])) w' := fun {g W} h => by
    have := own_read h 0 1; rwa [(rf0 a b).2, (rf0 a b).1] at this
  have k11 : ∀ {g : Nat} {W : World}, Own w g 32 (restoreK (cutK (bD5 a b) [])) W → Calls Try.prog 17 #[.pointer (some ⟨g, 0, none⟩), .int .i64 1, .int .i64 1] W fun e' w' => e' = .returned (.tuple #[.string b, .int .i64 0]) ∧ Own w g 32 (restoreK (cutK (bD5 a b) [])) w' := fun {g W} h => by
    have := own_read h 1 1; rwa [(rf1 a b).2, (rf1 a b).1] at this
  generalize restoreK (cutK (bD5 a b) []) = DE at *
  generalize cutK (bD5 a b) [] = DC at *
  generalize bD5 a b = D5 at *
  generalize bD4 a b = D4 at *
  generalize bD3 a = D3 at *
  generalize bD2 = D2 at *
  generalize bD1 = D1 at *
  have hmk : ∀ W : World, (Instr.makeSlice 40 (.int .i64 64) (.int .i64 64)).run Try.prog W = .ok (.slice (some ⟨W.heap.size, 0, none⟩) 64 64) (W.alloc (.cells (zeroCells 64) 5)) := zeros_make 64 (by omega)
  have htx := fun (W : World) => zeros_text W
  generalize zsec = Z at *
  obtain ⟨ZC, hZC⟩ : ∃ ZC, zeroCells 64 = ZC := ⟨_, rfl⟩
  rw [hZC] at htx hmk
  clear hZC
  have b1 : ((a.size : Int) != 64) = false := by simp; omega
  have b2 : ((b.size : Int) != 64) = false := by simp; omega
  go_enter Try.func9, Try.ntmps9
  go_wp2_with (first
    | (go_at_call 13; refine knew.mono ?_; rintro e w0 ⟨g, rfl, h0⟩; have H1 := Lib.hid h0; clear h0)
    | (go_at_call 14; (with_reducible refine (k1 H1.out).mono ?_); rintro e w1 ⟨rfl, h1⟩; have H2 := Lib.hid h1; clear h1 H1)
    | (go_at_call 14; (with_reducible refine (k2 H2.out).mono ?_); rintro e w2 ⟨rfl, h2⟩; have H3 := Lib.hid h2; clear h2 H2)
    | (go_at_call 15; (with_reducible refine (k3 H3.out).mono ?_); rintro e w3 ⟨rfl, h3⟩; have H4 := Lib.hid h3; clear h3 H3)
    | (go_at_call 15; (with_reducible refine (k4 H4.out).mono ?_); rintro e w4 ⟨rfl, h4⟩; have H5 := Lib.hid h4; clear h4 H4)
    | (go_at_call 24; (with_reducible refine (k5 H5.out).mono ?_); rintro e w5 ⟨rfl, h5⟩; have H6 := Lib.hid h5; clear h5 H5)
    | (go_at_call 29; (with_reducible refine (k6 H6.out).mono ?_); rintro e w6 ⟨rfl, h6⟩; have H7 := Lib.hid h6; clear h6 H6)
    | (go_at_call 29; (with_reducible refine (k7 H7.out).mono ?_); rintro e w7 ⟨rfl, h7⟩; have H8 := Lib.hid h7; clear h7 H7)
    | (go_at_call 19; (with_reducible refine (k8 H8.out).mono ?_); rintro e w8 ⟨rfl, h8⟩; have H9 := Lib.hid h8; clear h8 H8)
    | (go_at_call 20; (with_reducible refine (k9 H9.out).mono ?_); rintro e w9 ⟨rfl, h9⟩; have H10 := Lib.hid h9; clear h9 H9)
    | (go_at_call 17; (with_reducible refine (k10 H10.out).mono ?_); rintro e w10 ⟨rfl, h10⟩; have H11 := Lib.hid h10; clear h10 H10)
    | (go_at_call 17; (with_reducible refine (k11 H11.out).mono ?_); rintro e w11 ⟨rfl, h11⟩; have H12 := Lib.hid h11; clear h11 H11)
    | (go_at_call 12; refine (alive_any _).mono ?_; rintro e wz ⟨rfl, hz⟩; have HZ := Lib.hid ((H12.out.alloc _).then_ hz); clear hz))
  go_ret
  exact ⟨ret_bool (by first | rfl | simp), HZ.out.bel⟩

set_option maxHeartbeats 4000000 in
set_option maxRecDepth 100000 in
theorem walk (a b : ByteArray) (c : Bool) (w : World) (g0 : a.size ≤ maxLen) (g1 : b.size ≤ maxLen) :
    Calls Try.prog 9 #[.string a, .string b, .bool c] w fun e w' => e = .returned (.bool true) ∧ Below w.heap.size w w' := by
  by_cases hA : a.size = 64
  · by_cases hB : b.size = 64
    · cases c
      · exact walk_false a b w hA hB
      · exact walk_true a b w hA hB
    · have b1 : ((a.size : Int) != 64) = false := by simp; omega
      have b2 : ((b.size : Int) != 64) = true := by simp; omega
      go_enter Try.func9, Try.ntmps9
      go_wp2_with (go_at_call 12; refine (alive_any _).mono ?_; rintro e w1 ⟨rfl, hb⟩)
      go_ret
      exact ⟨rfl, hb⟩
  · have b1 : ((a.size : Int) != 64) = true := by simp; omega
    go_enter Try.func9, Try.ntmps9
    go_wp2_with (go_at_call 12; refine (alive_any _).mono ?_; rintro e w1 ⟨rfl, hb⟩)
    go_ret
    exact ⟨rfl, hb⟩
end Go.Proofs.Ytlnomfaaldjnpaa.diskBarriers
