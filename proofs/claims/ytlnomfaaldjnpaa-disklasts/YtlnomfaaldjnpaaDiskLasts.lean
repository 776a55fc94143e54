/- DiskLasts: the walk. No condition. -/
import Derived.Test.YtlnomfaaldjnpaaDkEval
import Derived.Deep.CutBlock
import Derived.Deep.Cut
namespace Go.Proofs.Ytlnomfaaldjnpaa.diskLasts
open Go.RowKit Go.Proofs.Ytlnomfaaldjnpaa.DK Go.Proofs.Ytlnomfaaldjnpaa.MI
set_option linter.unusedVariables false
set_option linter.unusedSimpArgs false

def lD1 : Dk := admitK (newK 12) 3 5
def lD2 (a : ByteArray) : Dk := manyK lD1 3 2 a 2
def lD3 (a : ByteArray) : Dk := settleK (lD2 a) 3
def lD4 (q : Int) (a b : ByteArray) : Dk := manyK (lD3 a) 3 q b 2
def lE (q : Int) (a b : ByteArray) (keep : List Int) : Dk := restoreK (cutK (lD4 q a b) keep)
theorem lD1_eq : admitE (newK 12) 3 5 = 0 ∧ admitK (newK 12) 3 5 = lD1 := ⟨by kernel_rfl, rfl⟩
theorem lD2_eq (a : ByteArray) (h : a.size = 128) : writeE lD1 3 5 2 a = 0 ∧ writeK lD1 3 5 2 a = lD2 a := write_good (c := 2) (by kernel_rfl) (by kernel_rfl) (by kernel_rfl) (by kernel_rfl) (by decide) (by omega) (by omega) (by decide +kernel)
theorem lD3_eq {a : ByteArray} : barrierE (lD2 a) 3 5 = 0 ∧ barrierK (lD2 a) 3 5 = lD3 a := ⟨by kernel_rfl, by kernel_rfl⟩
theorem room3 (a : ByteArray) : (lD3 a).room = 12 := by kernel_rfl
theorem lD4_eq (q : Int) (a b : ByteArray) (hq : 0 ≤ q ∧ q ≤ 8) (h : b.size = 128) : writeE (lD3 a) 3 5 q b = 0 ∧ writeK (lD3 a) 3 5 q b = lD4 q a b := write_good (c := 2) (by kernel_rfl) (by kernel_rfl) (by kernel_rfl) (by kernel_rfl) (by decide) (by omega) (by omega) (by rw [room3]; omega)
theorem lRead (q : Int) (a b : ByteArray) (keep : List Int) (x : Int) (hx : 0 ≤ x ∧ x ≤ 8) : readE (lE q a b keep) x 2 = 0 :=
  (read_good (D := lE q a b keep) (a := x) (k := 2) (by kernel_rfl) (by omega) ⟨hx.1, by rw [show (lE q a b keep).room = 12 by kernel_rfl]; omega⟩).1
def lst (b0 b1 : Bool) (L : Int → Option Wr) (x y : Wr) : Int → Option Wr := if b1 = true then keepL (if b0 = true then keepL L x else L) y else (if b0 = true then keepL L x else L)
def lNow (b0 b1 : Bool) (q : Int) (a B0 B1 : ByteArray) : Int → Option ByteArray := dataOf (lst b0 b1 (lD3 a).lasts ⟨3, q + ((0 : Nat) : Int), 3, B0⟩ ⟨3, q + ((1 : Nat) : Int), 4, B1⟩)
theorem lE_now (q : Int) (a b : ByteArray) (keep : List Int) : (lE q a b keep).now = lNow (staysB keep 0) (staysB keep 1) q a (sect b 0) (sect b 1) := by kernel_rfl
section
variable {q : Int} (a B0 B1 : ByteArray)
theorem nine (hq : 0 ≤ q ∧ q ≤ 8) : q = 0 ∨ q = 1 ∨ q = 2 ∨ q = 3 ∨ q = 4 ∨ q = 5 ∨ q = 6 ∨ q = 7 ∨ q = 8 := by omega
theorem n1 (hq : 0 ≤ q ∧ q ≤ 8) (b1 : Bool) : lNow true b1 q a B0 B1 (q + ((0 : Nat) : Int)) = some B0 := by
  rcases nine hq with rfl | rfl | rfl | rfl | rfl | rfl | rfl | rfl | rfl <;> cases b1 <;> kernel_rfl
theorem n2 (hq : 0 ≤ q ∧ q ≤ 8) (b0 : Bool) : lNow b0 true q a B0 B1 (q + ((1 : Nat) : Int)) = some B1 := by
  rcases nine hq with rfl | rfl | rfl | rfl | rfl | rfl | rfl | rfl | rfl <;> cases b0 <;> kernel_rfl
theorem n3 (b1 : Bool) : lNow false b1 2 a B0 B1 2 = some (sect a 0) ∧ lNow false b1 3 a B0 B1 3 = some (sect a 1) := by cases b1 <;> exact ⟨by kernel_rfl, by kernel_rfl⟩
theorem n4 (b0 : Bool) : lNow b0 false 1 a B0 B1 2 = some (sect a 0) ∧ lNow b0 false 2 a B0 B1 3 = some (sect a 1) := by cases b0 <;> exact ⟨by kernel_rfl, by kernel_rfl⟩
theorem n5 (hq : q = 0 ∨ q = 4 ∨ q = 5 ∨ q = 6 ∨ q = 7 ∨ q = 8) (b0 b1 : Bool) : lNow b0 b1 q a B0 B1 2 = some (sect a 0) ∧ lNow b0 b1 q a B0 B1 3 = some (sect a 1) := by
  rcases hq with rfl | rfl | rfl | rfl | rfl | rfl <;> cases b0 <;> cases b1 <;> exact ⟨by kernel_rfl, by kernel_rfl⟩
end
theorem sect_ext (b : ByteArray) (k : Nat) : b.extract (64 * k) (64 * k + 64) = sect b k := by unfold sect; rw [show k * 64 = 64 * k by omega, show (k + 1) * 64 = 64 * k + 64 by omega]
theorem sane_E (q : Int) (a b : ByteArray) (keep : List Int) (hq : 0 ≤ q ∧ q ≤ 8) (hA : a.size = 128) (hB : b.size = 128) (x : Int) (s : ByteArray) (h : (lE q a b keep).now x = some s) : s.size = 64 := by
  have s1 : Sane lD1 := sane_like (sane_new 12 (by omega)) (by kernel_rfl) (by kernel_rfl) (by kernel_rfl) (by kernel_rfl) (by kernel_rfl)
  have s2 : Sane (lD2 a) := (s1.one 3 _ (sect a 0) (sect_size (by omega)) (by decide)).one 3 _ (sect a 1) (sect_size (by omega)) (by decide)
  have s3 : Sane (lD3 a) := s2.settle 3
  have s4 : Sane (lD4 q a b) := (s3.one 3 (q + 0) (sect b 0) (sect_size (by omega)) (by omega)).one 3 (q + 1) (sect b 1) (sect_size (by omega)) (by omega)
  have s5 := (s4.cut keep).now x s
  exact s5 (by rw [← h]; rfl)
/-- What is read of the two sectors. -/
structure Reads (q : Int) (a b Y X : ByteArray) (s : Nat → Bool) : Prop where
  size : Y.size = 128
  at_ : ∀ k : Nat, k < 2 → (s k = true → Y.extract (64 * k) (64 * k + 64) = b.extract (64 * k) (64 * k + 64)) ∧ (s k = false → 0 ≤ q + (k : Int) - 2 → q + (k : Int) - 2 < 2 → Y.extract (64 * k) (64 * k + 64) = a.extract (64 * (q + (k : Int) - 2).toNat) (64 * (q + (k : Int) - 2).toNat + 64))
  whole : ¬ (1 ≤ q ∧ q ≤ 3) → X = a
theorem two_app (s t : List UInt8) (hs : s.length = 64) (ht : t.length = 64) :
    (⟨(([] ++ s) ++ t).toArray⟩ : ByteArray).size = 128 ∧ (⟨(([] ++ s) ++ t).toArray⟩ : ByteArray).extract (64 * 0) (64 * 0 + 64) = ⟨s.toArray⟩ ∧ (⟨(([] ++ s) ++ t).toArray⟩ : ByteArray).extract (64 * 1) (64 * 1 + 64) = ⟨t.toArray⟩ := by
  refine ⟨by show (([] ++ s) ++ t).toArray.size = _; simp; omega, ?_, ?_⟩
  · apply ByteArray.ext
    rw [ByteArray.data_extract]
    apply Array.ext'
    rw [Array.toList_extract, List.extract_eq_take_drop]
    simp
    rw [List.take_append_of_le_length (by omega), List.take_of_length_le (by omega)]
  · apply ByteArray.ext
    rw [ByteArray.data_extract]
    apply Array.ext'
    rw [Array.toList_extract, List.extract_eq_take_drop]
    simp
    rw [List.drop_append_of_le_length (by omega), List.drop_of_length_le (by omega), List.nil_append, List.take_of_length_le (by omega)]
theorem reads (q : Int) (a b : ByteArray) (keep : List Int) (hq : 0 ≤ q ∧ q ≤ 8) (hA : a.size = 128) (hB : b.size = 128) :
    Reads q a b (readT (lE q a b keep) q 2) (readT (lE q a b keep) 2 2) (staysB keep) := by
  have hY : readT (lE q a b keep) q 2 = ⟨(([] ++ (((lE q a b keep).now (q + ((0 : Nat) : Int))).getD zsec).data.toList) ++ (((lE q a b keep).now (q + ((1 : Nat) : Int))).getD zsec).data.toList).toArray⟩ := by
    unfold readT; rw [if_pos (lRead q a b keep q hq)]; rfl
  have hX : readT (lE q a b keep) 2 2 = ⟨(([] ++ (((lE q a b keep).now 2).getD zsec).data.toList) ++ (((lE q a b keep).now 3).getD zsec).data.toList).toArray⟩ := by
    unfold readT; rw [if_pos (lRead q a b keep 2 (by omega))]; rfl
  have hlen : ∀ x, (((lE q a b keep).now x).getD zsec).data.toList.length = 64 := by
    intro x
    rw [Array.length_toList]
    cases hn : (lE q a b keep).now x with
    | none => rfl
    | some s => exact sane_E q a b keep hq hA hB x s hn
  obtain ⟨t1, t2, t3⟩ := two_app _ _ (hlen (q + ((0 : Nat) : Int))) (hlen (q + ((1 : Nat) : Int)))
  rw [← hY] at t1 t2 t3
  rw [arr_list] at t2 t3
  rw [lE_now] at t2 t3
  refine ⟨t1, fun k hk => ?_, fun hn => ?_⟩
  · rw [sect_ext, sect_ext]
    rcases (by omega : k = 0 ∨ k = 1) with rfl | rfl
    · rw [sect_ext] at t2
      rw [t2]
      refine ⟨fun h => by rw [h, n1 a _ _ hq]; rfl, fun h h1 h2 => ?_⟩
      rw [h]
      rcases (by omega : q = 2 ∨ q = 3) with rfl | rfl
      · rw [show (2 : Int) + ((0 : Nat) : Int) = 2 from rfl, (n3 a _ _ _).1, sect_ext]; rfl
      · rw [show (3 : Int) + ((0 : Nat) : Int) = 3 from rfl, (n3 a _ _ _).2, sect_ext]; rfl
    · rw [sect_ext] at t3
      rw [t3]
      refine ⟨fun h => by rw [h, n2 a _ _ hq]; rfl, fun h h1 h2 => ?_⟩
      rw [h]
      rcases (by omega : q = 1 ∨ q = 2) with rfl | rfl
      · rw [show (1 : Int) + ((1 : Nat) : Int) = 2 from rfl, (n4 a _ _ _).1, sect_ext]; rfl
      · rw [show (2 : Int) + ((1 : Nat) : Int) = 3 from rfl, (n4 a _ _ _).2, sect_ext]; rfl
  · have h5 := n5 (q := q) a (sect b 0) (sect b 1) (by omega) (staysB keep 0) (staysB keep 1)
    rw [hX, lE_now, h5.1, h5.2]
    refine Eq.trans ?_ (arr_list a)
    congr 2
    simp only [Option.getD_some]
    rw [sect_list, sect_list, List.nil_append, Nat.zero_mul, Nat.one_mul, List.drop_zero, List.take_of_length_le (l := List.drop 64 a.data.toList) (by rw [List.length_drop, Array.length_toList]; show a.size - 64 ≤ 64; omega), List.take_append_drop]

set_option maxHeartbeats 8000000 in
set_option maxRecDepth 100000 in
theorem walk_in (a b : ByteArray) (q : Int) (A : Option Addr) (m c : Nat) (z : List Int) (w : World) (hA : a.size = 128) (hB : b.size = 128) (hq : 0 ≤ q ∧ q ≤ 8) (hm : m ≤ 20) (hz : IsRow .i64 w A m c z) :
    Calls Try.prog 5 #[.string a, .string b, .int .i64 q, .slice A m c] w fun e w' => e = .returned (.bool true) ∧ Below w.heap.size w w' := by
  have knew := own_new w (belowSame w) 12 (by omega) (by omega)
  have hrd := reads q a b (z.take m) hq hA hB
  obtain ⟨X, hX⟩ : ∃ X, readT (lE q a b (z.take m)) 2 2 = X := ⟨_, rfl⟩
  obtain ⟨Y, hY⟩ : ∃ Y, readT (lE q a b (z.take m)) q 2 = Y := ⟨_, rfl⟩
  have k1 : ∀ {g : Nat} {W : World}, Own w g 0 (newK 12) W → Calls Try.prog 14 #[.pointer (some ⟨g, 0, none⟩), .int .i64 3, .int .u64 5] W fun e' w' => e' = .returned (.int .i64 0) ∧ Own w g 0 (lD1) w' := fun {g W} h => by
    have := own_admit h 3 5 (by omega); rwa [lD1_eq.1] at this
  have k2 : ∀ {g : Nat} {W : World}, Own w g 0 (lD1) W → Calls Try.prog 15 #[.pointer (some ⟨g, 0, none⟩), .int .i64 3, .int .u64 5, .int .i64 2, .string a] W fun e' w' => e' = .returned (.int .i64 0) ∧ Own w g 16 (lD2 a) w' := fun {g W} h => by
    have := own_write h 3 5 2 a (by omega) (by omega); rwa [(lD2_eq a hA).1, (lD2_eq a hA).2] at this
  have k3 : ∀ {g : Nat} {W : World}, Own w g 16 (lD2 a) W → Calls Try.prog 24 #[.pointer (some ⟨g, 0, none⟩), .int .i64 3, .int .u64 5] W fun e' w' => e' = .returned (.int .i64 0) ∧ Own w g 16 (lD3 a) w' := fun {g W} h => by
    have := own_barrier h 3 5 (by omega); rwa [lD3_eq.1, lD3_eq.2] at this
  have k4 : ∀ {g : Nat} {W : World}, Own w g 16 (lD3 a) W → Calls Try.prog 15 #[.pointer (some ⟨g, 0, none⟩), .int .i64 3, .int .u64 5, .int .i64 q, .string b] W fun e' w' => e' = .returned (.int .i64 0) ∧ Own w g 32 (lD4 q a b) w' := fun {g W} h => by
    have := own_write h 3 5 q b (by omega) (by omega); rwa [(lD4_eq q a b hq hB).1, (lD4_eq q a b hq hB).2] at this
  have k5 : ∀ {g : Nat} {W : World}, Own w g 32 (lD4 q a b) W → Calls Try.prog 19 #[.pointer (some ⟨g, 0, none⟩), .slice A m c] W fun e' w' => e' = .returned (.int .i64 2) ∧ Own w g 32 (cutK (lD4 q a b) (z.take m)) w' := fun {g W} h => by
    exact own_cut_row h hz (by omega)
  have k6 : ∀ {g : Nat} {W : World}, Own w g 32 (cutK (lD4 q a b) (z.take m)) W → Calls Try.prog 20 #[.pointer (some ⟨g, 0, none⟩)] W fun e' w' => e' = .returned (.tuple #[]) ∧ Own w g 32 (lE q a b (z.take m)) w' := fun {g W} h => by
    exact own_restore h
  have k7 : ∀ {g : Nat} {W : World}, Own w g 32 (lE q a b (z.take m)) W → Calls Try.prog 17 #[.pointer (some ⟨g, 0, none⟩), .int .i64 2, .int .i64 2] W fun e' w' => e' = .returned (.tuple #[.string X, .int .i64 0]) ∧ Own w g 32 (lE q a b (z.take m)) w' := fun {g W} h => by
    have := own_read h 2 2; rwa [(lRead q a b _ 2 (by omega)), hX] at this
  have k8 : ∀ {g : Nat} {W : World}, Own w g 32 (lE q a b (z.take m)) W → Calls Try.prog 17 #[.pointer (some ⟨g, 0, none⟩), .int .i64 q, .int .i64 2] W fun e' w' => e' = .returned (.tuple #[.string Y, .int .i64 0]) ∧ Own w g 32 (lE q a b (z.take m)) w' := fun {g W} h => by
    have := own_read h q 2; rwa [(lRead q a b _ q (by omega)), hY] at this
  rw [hX, hY] at hrd
  have hst : ∀ i, staysB (z.take m) i = (decide (i < m) && oddB (z.getD i 0)) := stays_row hz
  have hcl := fun (h : 0 < m) => hz.cells h
  have HCL := Lib.hid hcl
  have hs : ∀ k : Nat, k < 2 → (∀ w : World, (Instr.slice 9 (.string Y) (some (.int .i64 (64 * (k : Int)))) (some (.int .i64 (64 * (k : Int) + 64))) none).run Try.prog w = .ok (.string (Y.extract (64 * k) (64 * k + 64))) w) ∧ (∀ w : World, (Instr.slice 9 (.string b) (some (.int .i64 (64 * (k : Int)))) (some (.int .i64 (64 * (k : Int) + 64))) none).run Try.prog w = .ok (.string (b.extract (64 * k) (64 * k + 64))) w) ∧
      ((decide (k < m) && oddB (z.getD k 0)) = true → Y.extract (64 * k) (64 * k + 64) = b.extract (64 * k) (64 * k + 64)) ∧ ((decide (k < m) && oddB (z.getD k 0)) = false → 0 ≤ q + (k : Int) - 2 → q + (k : Int) - 2 < 2 → Y.extract (64 * k) (64 * k + 64) = a.extract (64 * (q + (k : Int) - 2).toNat) (64 * (q + (k : Int) - 2).toNat + 64)) := by
    intro k hk
    refine ⟨fun w => ?_, fun w => ?_, fun h => (hrd.at_ k hk).1 (by rw [hst]; exact h), fun h => (hrd.at_ k hk).2 (by rw [hst]; exact h)⟩
    · rw [run_slice_string (P := Try.prog) w _ Y .i64 .i64 (64 * (k : Int)) (64 * (k : Int) + 64) Try.underlying9 (by omega) (by omega) (by rw [hrd.size]; omega)]
      rw [show (64 * (k : Int)).toNat = 64 * k by omega, show (64 * (k : Int) + 64).toNat = 64 * k + 64 by omega]
    · rw [run_slice_string (P := Try.prog) w _ b .i64 .i64 (64 * (k : Int)) (64 * (k : Int) + 64) Try.underlying9 (by omega) (by omega) (by omega)]
      rw [show (64 * (k : Int)).toNat = 64 * k by omega, show (64 * (k : Int) + 64).toNat = 64 * k + 64 by omega]
  have ha : ∀ v : Int, 0 ≤ v → v < 2 → ∀ w : World, (Instr.slice 9 (.string a) (some (.int .i64 (64 * v))) (some (.int .i64 (64 * v + 64))) none).run Try.prog w = .ok (.string (a.extract (64 * v.toNat) (64 * v.toNat + 64))) w := by
    intro v h0 h1 w
    rw [run_slice_string (P := Try.prog) w _ a .i64 .i64 (64 * v) (64 * v + 64) Try.underlying9 (by omega) (by omega) (by omega)]
    rw [show (64 * v).toNat = 64 * v.toNat by omega, show (64 * v + 64).toNat = 64 * v.toNat + 64 by omega]
  have HS := Lib.hid hs
  have HA := Lib.hid ha
  have HW := Lib.hid hrd.whole
  clear hst hcl hz hs ha hrd hX hY
  generalize lE q a b (z.take m) = DE at *
  generalize cutK (lD4 q a b) (z.take m) = DC at *
  generalize lD4 q a b = D4 at *
  generalize lD3 a = D3 at *
  generalize lD2 a = D2 at *
  generalize lD1 = D1 at *
  have b1 : ((a.size : Int) != 128) = false := by simp; omega
  have b2 : ((b.size : Int) != 128) = false := by simp; omega
  have b3 : decide (q < 0) = false := by simp; omega
  have b4 : decide (8 < q) = false := by simp; omega
  have b5 : decide ((20 : Int) < (m : Int)) = false := by simp; omega
  go_enter Try.func5, Try.ntmps5
  go_wp2_with (first
    | (go_at_call 13; refine knew.mono ?_; rintro e w0 ⟨g, rfl, h0⟩; have H1 := Lib.hid h0; clear h0)
    | (go_at_call 14; (with_reducible refine (k1 H1.out).mono ?_); rintro e w1 ⟨rfl, h1⟩; have H2 := Lib.hid h1; clear h1 H1)
    | (go_at_call 15; (with_reducible refine (k2 H2.out).mono ?_); rintro e w2 ⟨rfl, h2⟩; have H3 := Lib.hid h2; clear h2 H2)
    | (go_at_call 24; (with_reducible refine (k3 H3.out).mono ?_); rintro e w3 ⟨rfl, h3⟩; have H4 := Lib.hid h3; clear h3 H3)
    | (go_at_call 15; (with_reducible refine (k4 H4.out).mono ?_); rintro e w4 ⟨rfl, h4⟩; have H5 := Lib.hid h4; clear h4 H4)
    | (go_at_call 19; (with_reducible refine (k5 H5.out).mono ?_); rintro e w5 ⟨rfl, h5⟩; have H6 := Lib.hid h5; clear h5 H5)
    | (go_at_call 20; (with_reducible refine (k6 H6.out).mono ?_); rintro e w6 ⟨rfl, h6⟩; have H7 := Lib.hid h6; clear h6 H6)
    | (go_at_call 17; (with_reducible refine (k7 H7.out).mono ?_); rintro e w7 ⟨rfl, h7⟩; have H8 := Lib.hid h7; clear h7 H7)
    | (go_at_call 17; (with_reducible refine (k8 H8.out).mono ?_); rintro e w8 ⟨rfl, h8⟩; have H9 := Lib.hid h8; clear h8 H8))
  go_loopw [15, 16, 17, 18] (fun i _ _ _ wr => ∃ k : Nat, i = .int .i64 (k : Int) ∧ k ≤ 2 ∧ Hid (Own w g 32 DE wr)) (fun i _ _ _ _ => 2 - (intOf i).toNat)
  case atStart => exact ⟨0, rfl, by omega, H9⟩
  case round =>
    clear H9
    obtain ⟨k, rfl, hk, HO⟩ := hrel
    rcases (by omega : k = 0 ∨ k = 1 ∨ k = 2) with rfl | rfl | rfl
    · clear hk HW
      obtain ⟨hy, hb, hbt, hbf⟩ := HS.out 0 (by omega)
      obtain ⟨T, hT⟩ : ∃ T, Y.extract (64 * 0) (64 * 0 + 64) = T := ⟨_, rfl⟩
      rw [hT] at hbt hbf hy
      obtain ⟨U, hU⟩ : ∃ U, b.extract (64 * 0) (64 * 0 + 64) = U := ⟨_, rfl⟩
      rw [hU] at hbt hb
      have hyk : ∀ w : World, (Instr.slice 9 (.string Y) (some (.int .i64 0)) (some (.int .i64 64)) none).run Try.prog w = .ok (.string T) w := hy
      have hbk : ∀ w : World, (Instr.slice 9 (.string b) (some (.int .i64 0)) (some (.int .i64 64)) none).run Try.prog w = .ok (.string U) w := hb
      clear hy hb
      by_cases hkm : 0 < m
      · obtain ⟨b0, off, rfl, hb0, hc0⟩ := HCL.out (by omega)
        have d1 : decide ((0 : Int) < (m : Int)) = true := by simp; omega
        obtain ⟨x, hx⟩ : ∃ x, z.getD 0 0 = x := ⟨_, rfl⟩
        have y0 : wr.cell? ⟨b0, off + 0, none⟩ = some (.int .i64 x) := by rw [← hx]; exact (HO.out.bel.cell (p := ⟨b0, off + 0, none⟩) hb0).trans (hc0 0 (by omega))
        rw [Nat.add_zero] at y0
        rw [hx, show decide (0 < m) = true by simp; omega, Bool.true_and] at hbt hbf
        clear hx hb0 hc0 hT hU
        cases o0 : oddB x
        · have p0 : (bits BinOp.and IntKind.i64 x 1 == 1) = false := o0
          have hbf2 := hbf o0
          clear hbt hbf o0
          have e0 : IntKind.i64.wrap (q + 0 - 2) = q + 0 - 2 := IntWalk.i64_in _ (by omega)
          rw [Int.add_zero] at e0
          by_cases u0 : 0 ≤ q - 2
          · by_cases u1 : q - 2 < 2
            · obtain ⟨V, hV⟩ : ∃ V, a.extract (64 * (q - 2).toNat) (64 * (q - 2).toNat + 64) = V := ⟨_, rfl⟩
              have hTV := hbf2 (by omega) (by omega)
              rw [show (q + ((0 : Nat) : Int) - 2) = q - 2 by omega, hV] at hTV
              subst hTV
              clear hbf2
              have hsa := HA.out (q - 2) (by omega) (by omega)
              rw [hV] at hsa
              clear hV
              obtain ⟨v, hv⟩ : ∃ v, q - 2 = v := ⟨_, rfl⟩
              rw [hv] at e0 u0 u1 hsa
              have u0' : decide (0 ≤ v) = true := by simpa using u0
              have u1' : decide (v < 2) = true := by simpa using u1
              have e1 : IntKind.i64.wrap (64 * v) = 64 * v := IntWalk.i64_in _ (by omega)
              have e2 : IntKind.i64.wrap (64 * v + 64) = 64 * v + 64 := IntWalk.i64_in _ (by omega)
              go_wp2_with fail
              go_roundw
              case rel => exact ⟨1, by first | rfl | go_num, by omega, HO⟩
              case measure => simp [intOf]
            · have u1' : decide (q - 2 < 2) = false := by simp; omega
              clear hbf2
              obtain ⟨v, hv⟩ : ∃ v, q - 2 = v := ⟨_, rfl⟩
              rw [hv] at e0 u0 u1 u1'
              have u0' : decide (0 ≤ v) = true := by simpa using u0
              go_wp2_with fail
              go_roundw
              case rel => exact ⟨1, by first | rfl | go_num, by omega, HO⟩
              case measure => simp [intOf]
          · have u0' : decide (0 ≤ q - 2) = false := by simp; omega
            clear hbf2
            obtain ⟨v, hv⟩ : ∃ v, q - 2 = v := ⟨_, rfl⟩
            rw [hv] at e0 u0 u0'
            go_wp2_with fail
            go_roundw
            case rel => exact ⟨1, by first | rfl | go_num, by omega, HO⟩
            case measure => simp [intOf]
        · have p0 : (bits BinOp.and IntKind.i64 x 1 == 1) = true := o0
          obtain rfl := hbt o0
          clear hbt hbf o0
          go_wp2_with fail
          go_roundw
          case rel => exact ⟨1, by first | rfl | go_num, by omega, HO⟩
          case measure => simp [intOf]
      · have d1 : decide ((0 : Int) < (m : Int)) = false := by simp; omega
        rw [show decide (0 < m) = false by simp; omega, Bool.false_and] at hbt hbf
        have hbf2 := hbf rfl
        clear hbt hbf hT hU
        have e0 : IntKind.i64.wrap (q + 0 - 2) = q + 0 - 2 := IntWalk.i64_in _ (by omega)
        rw [Int.add_zero] at e0
        by_cases u0 : 0 ≤ q - 2
        · by_cases u1 : q - 2 < 2
          · obtain ⟨V, hV⟩ : ∃ V, a.extract (64 * (q - 2).toNat) (64 * (q - 2).toNat + 64) = V := ⟨_, rfl⟩
            have hTV := hbf2 (by omega) (by omega)
            rw [show (q + ((0 : Nat) : Int) - 2) = q - 2 by omega, hV] at hTV
            subst hTV
            clear hbf2
            have hsa := HA.out (q - 2) (by omega) (by omega)
            rw [hV] at hsa
            clear hV
            obtain ⟨v, hv⟩ : ∃ v, q - 2 = v := ⟨_, rfl⟩
            rw [hv] at e0 u0 u1 hsa
            have u0' : decide (0 ≤ v) = true := by simpa using u0
            have u1' : decide (v < 2) = true := by simpa using u1
            have e1 : IntKind.i64.wrap (64 * v) = 64 * v := IntWalk.i64_in _ (by omega)
            have e2 : IntKind.i64.wrap (64 * v + 64) = 64 * v + 64 := IntWalk.i64_in _ (by omega)
            go_wp2_with fail
            go_roundw
            case rel => exact ⟨1, by first | rfl | go_num, by omega, HO⟩
            case measure => simp [intOf]
          · have u1' : decide (q - 2 < 2) = false := by simp; omega
            clear hbf2
            obtain ⟨v, hv⟩ : ∃ v, q - 2 = v := ⟨_, rfl⟩
            rw [hv] at e0 u0 u1 u1'
            have u0' : decide (0 ≤ v) = true := by simpa using u0
            go_wp2_with fail
            go_roundw
            case rel => exact ⟨1, by first | rfl | go_num, by omega, HO⟩
            case measure => simp [intOf]
        · have u0' : decide (0 ≤ q - 2) = false := by simp; omega
          clear hbf2
          obtain ⟨v, hv⟩ : ∃ v, q - 2 = v := ⟨_, rfl⟩
          rw [hv] at e0 u0 u0'
          go_wp2_with fail
          go_roundw
          case rel => exact ⟨1, by first | rfl | go_num, by omega, HO⟩
          case measure => simp [intOf]
    · clear hk HW
      obtain ⟨hy, hb, hbt, hbf⟩ := HS.out 1 (by omega)
      obtain ⟨T, hT⟩ : ∃ T, Y.extract (64 * 1) (64 * 1 + 64) = T := ⟨_, rfl⟩
      rw [hT] at hbt hbf hy
      obtain ⟨U, hU⟩ : ∃ U, b.extract (64 * 1) (64 * 1 + 64) = U := ⟨_, rfl⟩
      rw [hU] at hbt hb
      have hyk : ∀ w : World, (Instr.slice 9 (.string Y) (some (.int .i64 64)) (some (.int .i64 128)) none).run Try.prog w = .ok (.string T) w := hy
      have hbk : ∀ w : World, (Instr.slice 9 (.string b) (some (.int .i64 64)) (some (.int .i64 128)) none).run Try.prog w = .ok (.string U) w := hb
      clear hy hb
      by_cases hkm : 1 < m
      · obtain ⟨b0, off, rfl, hb0, hc0⟩ := HCL.out (by omega)
        have d1 : decide ((1 : Int) < (m : Int)) = true := by simp; omega
        obtain ⟨x, hx⟩ : ∃ x, z.getD 1 0 = x := ⟨_, rfl⟩
        have y0 : wr.cell? ⟨b0, off + 1, none⟩ = some (.int .i64 x) := by rw [← hx]; exact (HO.out.bel.cell (p := ⟨b0, off + 1, none⟩) hb0).trans (hc0 1 (by omega))
        rw [hx, show decide (1 < m) = true by simp; omega, Bool.true_and] at hbt hbf
        clear hx hb0 hc0 hT hU
        cases o0 : oddB x
        · have p0 : (bits BinOp.and IntKind.i64 x 1 == 1) = false := o0
          have hbf2 := hbf o0
          clear hbt hbf o0
          have e0 : IntKind.i64.wrap (q + 1 - 2) = q + 1 - 2 := IntWalk.i64_in _ (by omega)
          by_cases u0 : 0 ≤ q + 1 - 2
          · by_cases u1 : q + 1 - 2 < 2
            · obtain ⟨V, hV⟩ : ∃ V, a.extract (64 * (q + 1 - 2).toNat) (64 * (q + 1 - 2).toNat + 64) = V := ⟨_, rfl⟩
              have hTV := hbf2 (by omega) (by omega)
              rw [show (q + ((1 : Nat) : Int) - 2) = q + 1 - 2 by omega, hV] at hTV
              subst hTV
              clear hbf2
              have hsa := HA.out (q + 1 - 2) (by omega) (by omega)
              rw [hV] at hsa
              clear hV
              obtain ⟨v, hv⟩ : ∃ v, q + 1 - 2 = v := ⟨_, rfl⟩
              rw [hv] at e0 u0 u1 hsa
              have u0' : decide (0 ≤ v) = true := by simpa using u0
              have u1' : decide (v < 2) = true := by simpa using u1
              have e1 : IntKind.i64.wrap (64 * v) = 64 * v := IntWalk.i64_in _ (by omega)
              have e2 : IntKind.i64.wrap (64 * v + 64) = 64 * v + 64 := IntWalk.i64_in _ (by omega)
              go_wp2_with fail
              go_roundw
              case rel => exact ⟨2, by first | rfl | go_num, by omega, HO⟩
              case measure => simp [intOf]
            · have u1' : decide (q + 1 - 2 < 2) = false := by simp; omega
              clear hbf2
              obtain ⟨v, hv⟩ : ∃ v, q + 1 - 2 = v := ⟨_, rfl⟩
              rw [hv] at e0 u0 u1 u1'
              have u0' : decide (0 ≤ v) = true := by simpa using u0
              go_wp2_with fail
              go_roundw
              case rel => exact ⟨2, by first | rfl | go_num, by omega, HO⟩
              case measure => simp [intOf]
          · have u0' : decide (0 ≤ q + 1 - 2) = false := by simp; omega
            clear hbf2
            obtain ⟨v, hv⟩ : ∃ v, q + 1 - 2 = v := ⟨_, rfl⟩
            rw [hv] at e0 u0 u0'
            go_wp2_with fail
            go_roundw
            case rel => exact ⟨2, by first | rfl | go_num, by omega, HO⟩
            case measure => simp [intOf]
        · have p0 : (bits BinOp.and IntKind.i64 x 1 == 1) = true := o0
          obtain rfl := hbt o0
          clear hbt hbf o0
          go_wp2_with fail
          go_roundw
          case rel => exact ⟨2, by first | rfl | go_num, by omega, HO⟩
          case measure => simp [intOf]
      · have d1 : decide ((1 : Int) < (m : Int)) = false := by simp; omega
        rw [show decide (1 < m) = false by simp; omega, Bool.false_and] at hbt hbf
        have hbf2 := hbf rfl
        clear hbt hbf hT hU
        have e0 : IntKind.i64.wrap (q + 1 - 2) = q + 1 - 2 := IntWalk.i64_in _ (by omega)
        by_cases u0 : 0 ≤ q + 1 - 2
        · by_cases u1 : q + 1 - 2 < 2
          · obtain ⟨V, hV⟩ : ∃ V, a.extract (64 * (q + 1 - 2).toNat) (64 * (q + 1 - 2).toNat + 64) = V := ⟨_, rfl⟩
            have hTV := hbf2 (by omega) (by omega)
            rw [show (q + ((1 : Nat) : Int) - 2) = q + 1 - 2 by omega, hV] at hTV
            subst hTV
            clear hbf2
            have hsa := HA.out (q + 1 - 2) (by omega) (by omega)
            rw [hV] at hsa
            clear hV
            obtain ⟨v, hv⟩ : ∃ v, q + 1 - 2 = v := ⟨_, rfl⟩
            rw [hv] at e0 u0 u1 hsa
            have u0' : decide (0 ≤ v) = true := by simpa using u0
            have u1' : decide (v < 2) = true := by simpa using u1
            have e1 : IntKind.i64.wrap (64 * v) = 64 * v := IntWalk.i64_in _ (by omega)
            have e2 : IntKind.i64.wrap (64 * v + 64) = 64 * v + 64 := IntWalk.i64_in _ (by omega)
            go_wp2_with fail
            go_roundw
            case rel => exact ⟨2, by first | rfl | go_num, by omega, HO⟩
            case measure => simp [intOf]
          · have u1' : decide (q + 1 - 2 < 2) = false := by simp; omega
            clear hbf2
            obtain ⟨v, hv⟩ : ∃ v, q + 1 - 2 = v := ⟨_, rfl⟩
            rw [hv] at e0 u0 u1 u1'
            have u0' : decide (0 ≤ v) = true := by simpa using u0
            go_wp2_with fail
            go_roundw
            case rel => exact ⟨2, by first | rfl | go_num, by omega, HO⟩
            case measure => simp [intOf]
        · have u0' : decide (0 ≤ q + 1 - 2) = false := by simp; omega
          clear hbf2
          obtain ⟨v, hv⟩ : ∃ v, q + 1 - 2 = v := ⟨_, rfl⟩
          rw [hv] at e0 u0 u0'
          go_wp2_with fail
          go_roundw
          case rel => exact ⟨2, by first | rfl | go_num, by omega, HO⟩
          case measure => simp [intOf]
    · clear HS HA HCL hk
      by_cases u0 : 1 ≤ q
      · have u0' : decide (1 ≤ q) = true := by simpa using u0
        by_cases u1 : q ≤ 3
        · have u1' : decide (q ≤ 3) = true := by simpa using u1
          clear HW
          go_wp2_with (go_at_call 12; refine (alive_any _).mono ?_; rintro e wz ⟨rfl, hz⟩; have HZ := Lib.hid (HO.out.then_ hz); clear hz)
          go_ret
          exact ⟨ret_bool (by first | rfl | simp), HZ.out.bel⟩
        · have u1' : decide (q ≤ 3) = false := by simpa using u1
          obtain rfl := HW.out (by omega)
          clear HW
          go_wp2_with (go_at_call 12; refine (alive_any _).mono ?_; rintro e wz ⟨rfl, hz⟩; have HZ := Lib.hid (HO.out.then_ hz); clear hz)
          go_ret
          exact ⟨ret_bool (by first | rfl | simp), HZ.out.bel⟩
      · have u0' : decide (1 ≤ q) = false := by simpa using u0
        obtain rfl := HW.out (by omega)
        clear HW
        go_wp2_with (go_at_call 12; refine (alive_any _).mono ?_; rintro e wz ⟨rfl, hz⟩; have HZ := Lib.hid (HO.out.then_ hz); clear hz)
        go_ret
        exact ⟨ret_bool (by first | rfl | simp), HZ.out.bel⟩
set_option maxHeartbeats 4000000 in
set_option maxRecDepth 100000 in
theorem walk (a b : ByteArray) (q : Int) (A : Option Addr) (m c : Nat) (z : List Int) (w : World) (g0 : a.size ≤ maxLen) (g1 : b.size ≤ maxLen) (g2 : (Lit.int .i64 q).wf = true) (hz : IsRow .i64 w A m c z) :
    Calls Try.prog 5 #[.string a, .string b, .int .i64 q, .slice A m c] w fun e w' => e = .returned (.bool true) ∧ Below w.heap.size w w' := by
  by_cases hA : a.size = 128
  · have b1 : ((a.size : Int) != 128) = false := by simp; omega
    by_cases hB : b.size = 128
    · have b2 : ((b.size : Int) != 128) = false := by simp; omega
      by_cases h0 : 0 ≤ q
      · have b3 : decide (q < 0) = false := by simp; omega
        by_cases h8 : q ≤ 8
        · have b4 : decide (8 < q) = false := by simp; omega
          by_cases hm : m ≤ 20
          · exact walk_in a b q A m c z w hA hB ⟨h0, h8⟩ hm hz
          · have b5 : decide ((20 : Int) < (m : Int)) = true := by simp; omega
            clear hz
            go_enter Try.func5, Try.ntmps5
            go_wp2_with (go_at_call 12; refine (alive_any _).mono ?_; rintro e w1 ⟨rfl, hb⟩)
            go_ret
            exact ⟨rfl, hb⟩
        · have b4 : decide (8 < q) = true := by simp; omega
          clear hz
          go_enter Try.func5, Try.ntmps5
          go_wp2_with (go_at_call 12; refine (alive_any _).mono ?_; rintro e w1 ⟨rfl, hb⟩)
          go_ret
          exact ⟨rfl, hb⟩
      · have b3 : decide (q < 0) = true := by simp; omega
        clear hz
        go_enter Try.func5, Try.ntmps5
        go_wp2_with (go_at_call 12; refine (alive_any _).mono ?_; rintro e w1 ⟨rfl, hb⟩)
        go_ret
        exact ⟨rfl, hb⟩
    · have b2 : ((b.size : Int) != 128) = true := by simp; omega
      clear hz
      go_enter Try.func5, Try.ntmps5
      go_wp2_with (go_at_call 12; refine (alive_any _).mono ?_; rintro e w1 ⟨rfl, hb⟩)
      go_ret
      exact ⟨rfl, hb⟩
  · have b1 : ((a.size : Int) != 128) = true := by simp; omega
    clear hz
    go_enter Try.func5, Try.ntmps5
    go_wp2_with (go_at_call 12; refine (alive_any _).mono ?_; rintro e w1 ⟨rfl, hb⟩)
    go_ret
    exact ⟨rfl, hb⟩
end Go.Proofs.Ytlnomfaaldjnpaa.diskLasts
