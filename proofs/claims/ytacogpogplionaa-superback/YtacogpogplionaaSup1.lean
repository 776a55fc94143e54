/- super: in, Valid, Size, LogAt, BlockAt. No condition. -/
import Derived.Test.YtacogpogplionaaRegInv
import Derived.Test.YtacogpogplionaaChecked
namespace Go.Proofs.Ytacogpogplionaa.SU
set_option maxRecDepth 100000
open Go.RowKit
set_option linter.unusedVariables false
set_option linter.unusedSimpArgs false

structure Sh where
  n : Int
  b : Int
  l : Int
  c : Int
  e : Int
def sagg (s : Sh) : Value := .agg #[.int .i64 s.n, .int .i64 s.b, .int .i64 s.l, .int .i64 s.c, .int .i64 s.e]
abbrev scells (s : Sh) : Array Value := #[.int .i64 s.n, .int .i64 s.b, .int .i64 s.l, .int .i64 s.c, .int .i64 s.e]
abbrev TSh : TypeId := 23
abbrev TLa : TypeId := 27
def inB (n a b : Int) : Bool := decide (a ≤ n) && decide (n ≤ b)
theorem in_any (n a b : Int) (w : World) : Calls Try.prog 12 #[.int .i64 n, .int .i64 a, .int .i64 b] w fun e w' => e = .returned (.bool (inB n a b)) ∧ w' = w := by
  unfold inB
  by_cases h : a ≤ n
  · have c1 : decide (a ≤ n) = true := by simpa using h
    clear h
    go_enter Try.func12, Try.ntmps12
    go_wp2
    exact end_ret (t := 6) (v := .bool (decide (n ≤ b))) (by kernel_rfl) rfl rfl ⟨by rw [c1]; rfl, rfl⟩
  · have c1 : decide (a ≤ n) = false := by simpa using h
    clear h
    go_enter Try.func12, Try.ntmps12
    go_wp2
    exact end_ret (t := 6) (v := .bool false) (by kernel_rfl) rfl rfl ⟨by rw [c1]; rfl, rfl⟩
def validB (s : Sh) : Bool := inB s.n 1 16 && inB s.b 1 4096 && inB s.l 8 256 && inB s.c 2 1000 && inB s.e 32 1000
theorem valid_any (s : Sh) (w : World) : Calls Try.prog 5 #[sagg s] w fun e w' => e = .returned (.bool (validB s)) ∧ Below w.heap.size w w' := by
  unfold validB sagg
  by_cases h0 : inB s.n 1 16 = false
  · have R : (inB s.n 1 16 && inB s.b 1 4096 && inB s.l 8 256 && inB s.c 2 1000 && inB s.e 32 1000) = false := by rw [h0]; rfl
    rw [R]
    clear R
    go_enter Try.func5, Try.ntmps5
    go_wp2_with (go_at_call 12; refine (in_any _ _ _ _).mono ?_; rintro x w1 ⟨rfl, rfl⟩)
    exact end_ret (t := 2) (v := .bool false) (by kernel_rfl) rfl rfl ⟨rfl, belowNew (belowSame w) _⟩
  replace h0 : inB s.n 1 16 = true := by simpa using h0
  by_cases h1 : inB s.b 1 4096 = false
  · have R : (inB s.n 1 16 && inB s.b 1 4096 && inB s.l 8 256 && inB s.c 2 1000 && inB s.e 32 1000) = false := by rw [h0, h1]; rfl
    rw [R]
    clear R
    go_enter Try.func5, Try.ntmps5
    go_wp2_with (go_at_call 12; refine (in_any _ _ _ _).mono ?_; rintro x w1 ⟨rfl, rfl⟩)
    exact end_ret (t := 2) (v := .bool false) (by kernel_rfl) rfl rfl ⟨rfl, belowNew (belowSame w) _⟩
  replace h1 : inB s.b 1 4096 = true := by simpa using h1
  by_cases h2 : inB s.l 8 256 = false
  · have R : (inB s.n 1 16 && inB s.b 1 4096 && inB s.l 8 256 && inB s.c 2 1000 && inB s.e 32 1000) = false := by rw [h0, h1, h2]; rfl
    rw [R]
    clear R
    go_enter Try.func5, Try.ntmps5
    go_wp2_with (go_at_call 12; refine (in_any _ _ _ _).mono ?_; rintro x w1 ⟨rfl, rfl⟩)
    exact end_ret (t := 2) (v := .bool false) (by kernel_rfl) rfl rfl ⟨rfl, belowNew (belowSame w) _⟩
  replace h2 : inB s.l 8 256 = true := by simpa using h2
  by_cases h3 : inB s.c 2 1000 = false
  · have R : (inB s.n 1 16 && inB s.b 1 4096 && inB s.l 8 256 && inB s.c 2 1000 && inB s.e 32 1000) = false := by rw [h0, h1, h2, h3]; rfl
    rw [R]
    clear R
    go_enter Try.func5, Try.ntmps5
    go_wp2_with (go_at_call 12; refine (in_any _ _ _ _).mono ?_; rintro x w1 ⟨rfl, rfl⟩)
    exact end_ret (t := 2) (v := .bool false) (by kernel_rfl) rfl rfl ⟨rfl, belowNew (belowSame w) _⟩
  replace h3 : inB s.c 2 1000 = true := by simpa using h3
  by_cases h4 : inB s.e 32 1000 = false
  · have R : (inB s.n 1 16 && inB s.b 1 4096 && inB s.l 8 256 && inB s.c 2 1000 && inB s.e 32 1000) = false := by rw [h0, h1, h2, h3, h4]; rfl
    rw [R]
    clear R
    go_enter Try.func5, Try.ntmps5
    go_wp2_with (go_at_call 12; refine (in_any _ _ _ _).mono ?_; rintro x w1 ⟨rfl, rfl⟩)
    exact end_ret (t := 2) (v := .bool false) (by kernel_rfl) rfl rfl ⟨rfl, belowNew (belowSame w) _⟩
  replace h4 : inB s.e 32 1000 = true := by simpa using h4
  have R : (inB s.n 1 16 && inB s.b 1 4096 && inB s.l 8 256 && inB s.c 2 1000 && inB s.e 32 1000) = true := by rw [h0, h1, h2, h3, h4]; rfl
  rw [R]
  clear R
  go_enter Try.func5, Try.ntmps5
  go_wp2_with (go_at_call 12; refine (in_any _ _ _ _).mono ?_; rintro x w1 ⟨rfl, rfl⟩)
  exact end_ret (t := 2) (v := .bool true) (by kernel_rfl) rfl rfl ⟨rfl, belowNew (belowSame w) _⟩
structure Good (s : Sh) : Prop where
  n : 1 ≤ s.n ∧ s.n ≤ 16
  b : 1 ≤ s.b ∧ s.b ≤ 4096
  l : 8 ≤ s.l ∧ s.l ≤ 256
  c : 2 ≤ s.c ∧ s.c ≤ 1000
  e : 32 ≤ s.e ∧ s.e ≤ 1000
theorem valid_iff (s : Sh) : validB s = true ↔ Good s := by
  unfold validB inB
  simp only [Bool.and_eq_true, decide_eq_true_eq]
  constructor
  · rintro ⟨⟨⟨⟨a, b⟩, c⟩, d⟩, e⟩; exact ⟨a, b, c, d, e⟩
  · rintro ⟨a, b, c, d, e⟩; exact ⟨⟨⟨⟨a, b⟩, c⟩, d⟩, e⟩
theorem mul_le (a b : Int) (ha : 1 ≤ a ∧ a ≤ 16) (hb : 8 ≤ b ∧ b ≤ 256) : 8 ≤ a * b ∧ a * b ≤ 4096 := by
  have h1 : 0 ≤ (a - 1) * (b - 8) := Int.mul_nonneg (by omega) (by omega)
  have h2 : 0 ≤ (16 - a) * b := Int.mul_nonneg (by omega) (by omega)
  have e1 : (a - 1) * (b - 8) = a * b - 8 * a - b + 8 := by rw [Int.sub_mul, Int.mul_sub, Int.mul_sub]; omega
  have e2 : (16 - a) * b = 16 * b - a * b := by rw [Int.sub_mul]
  omega
def sizeI (s : Sh) : Int := 1 + s.n * s.l + 2 * s.b
theorem size_ok (s : Sh) (h : Good s) (w : World) : Calls Try.prog 9 #[sagg s] w fun e w' => e = .returned (.int .i64 (sizeI s)) ∧ Below w.heap.size w w' := by
  have hv := (valid_iff s).2 h
  have hm := mul_le s.n s.l h.n h.l
  have hb := h.b
  have kv := fun W => valid_any s W
  rw [hv] at kv
  unfold sagg at *
  unfold sizeI
  obtain ⟨M, hM⟩ : ∃ M, s.n * s.l = M := ⟨_, rfl⟩
  rw [hM] at hm ⊢
  have e1 : IntKind.i64.wrap (s.n * s.l) = M := by rw [hM]; exact IntWalk.i64_in _ (by omega)
  have e2 : IntKind.i64.wrap (1 + M) = 1 + M := IntWalk.i64_in _ (by omega)
  have e3 : IntKind.i64.wrap (2 * s.b) = 2 * s.b := IntWalk.i64_in _ (by omega)
  have e4 : IntKind.i64.wrap (1 + M + 2 * s.b) = 1 + M + 2 * s.b := IntWalk.i64_in _ (by omega)
  have hbn := Blk.new w TSh (scells s)
  have hb0 := (Below.refl _ w).alloc (Nat.le_refl _) (.cells (scells s) TSh)
  have HBN := Lib.hid hbn
  have HB0 := Lib.hid hb0
  clear hbn hb0 hM h hv
  go_enter Try.func9, Try.ntmps9
  go_wp2_with (go_at_call 5; refine (kv _).mono ?_; rintro x w1 ⟨rfl, hb1⟩; have bk := HBN.out.below hb1 HBN.out.lt; have c0 : w1.cell? ⟨w.heap.size, 0, none⟩ = some (.int .i64 s.n) := bk.cell 0; have c1 : w1.cell? ⟨w.heap.size, 1, none⟩ = some (.int .i64 s.b) := bk.cell 1; have c2 : w1.cell? ⟨w.heap.size, 2, none⟩ = some (.int .i64 s.l) := bk.cell 2; have HB1 := Lib.hid (HB0.out.trans (hb1.mono HB0.out.size)); clear bk hb1)
  exact end_ret (t := 2) (v := .int .i64 (1 + M + 2 * s.b)) (by kernel_rfl) rfl rfl ⟨rfl, HB1.out⟩
def logI (s : Sh) (a : Int) : Int := 1 + (a - 1) * s.l
theorem log_ok (s : Sh) (h : Good s) (a : Int) (ha : 1 ≤ a ∧ a ≤ s.n) (w : World) : Calls Try.prog 7 #[sagg s, .int .i64 a] w fun e w' => e = .returned (.tuple #[.int .i64 (logI s a), .int .i64 0]) ∧ Below w.heap.size w w' := by
  have hv := (valid_iff s).2 h
  have hn := h.n
  have hl := h.l
  have hm : 0 ≤ (a - 1) * s.l ∧ (a - 1) * s.l ≤ 4096 := by
    have h1 : 0 ≤ (a - 1) * s.l := Int.mul_nonneg (by omega) (by omega)
    have h2 : 0 ≤ (s.n - a) * s.l := Int.mul_nonneg (by omega) (by omega)
    have h3 := mul_le s.n s.l hn hl
    have e1 : (s.n - a) * s.l = s.n * s.l - a * s.l := by rw [Int.sub_mul]
    have e2 : (a - 1) * s.l = a * s.l - s.l := by rw [Int.sub_mul]; omega
    omega
  have kv := fun W => valid_any s W
  rw [hv] at kv
  have ki := fun W => in_any a 1 s.n W
  rw [show inB a 1 s.n = true by unfold inB; simp; omega] at ki
  unfold sagg at *
  unfold logI
  obtain ⟨M, hM⟩ : ∃ M, (a - 1) * s.l = M := ⟨_, rfl⟩
  rw [hM] at hm ⊢
  have e0 : IntKind.i64.wrap (a - 1) = a - 1 := IntWalk.i64_in _ (by omega)
  have e1 : IntKind.i64.wrap ((a - 1) * s.l) = M := by rw [hM]; exact IntWalk.i64_in _ (by omega)
  have e2 : IntKind.i64.wrap (1 + M) = 1 + M := IntWalk.i64_in _ (by omega)
  have hbn := Blk.new w TLa (scells s)
  have hb0 := (Below.refl _ w).alloc (Nat.le_refl _) (.cells (scells s) TLa)
  have HBN := Lib.hid hbn
  have HB0 := Lib.hid hb0
  clear hbn hb0 hM h hv
  go_enter Try.func7, Try.ntmps7
  go_wp2_with (first
    | (go_at_call 5; refine (kv _).mono ?_; rintro x w1 ⟨rfl, hb1⟩; have bk := HBN.out.below hb1 HBN.out.lt; have c0 : w1.cell? ⟨w.heap.size, 0, none⟩ = some (.int .i64 s.n) := bk.cell 0; have c1 : w1.cell? ⟨w.heap.size, 1, none⟩ = some (.int .i64 s.b) := bk.cell 1; have c2 : w1.cell? ⟨w.heap.size, 2, none⟩ = some (.int .i64 s.l) := bk.cell 2; have HB1 := Lib.hid (HB0.out.trans (hb1.mono HB0.out.size)); clear bk hb1)
    | (go_at_call 12; refine (ki _).mono ?_; rintro x w2 ⟨rfl, rfl⟩))
  go_ret2
  exact ⟨rfl, HB1.out⟩
def blockI (s : Sh) (x : Int) : Int := 1 + s.n * s.l + 2 * x
theorem block_ok (s : Sh) (h : Good s) (x : Int) (hx : 0 ≤ x ∧ x < s.b) (w : World) : Calls Try.prog 8 #[sagg s, .int .i64 x] w fun e w' => e = .returned (.tuple #[.int .i64 (blockI s x), .int .i64 0]) ∧ Below w.heap.size w w' := by
  have hv := (valid_iff s).2 h
  have hb := h.b
  have hm := mul_le s.n s.l h.n h.l
  have kv := fun W => valid_any s W
  rw [hv] at kv
  have ki := fun W => in_any x 0 (s.b - 1) W
  rw [show inB x 0 (s.b - 1) = true by unfold inB; simp; omega] at ki
  unfold sagg at *
  unfold blockI
  obtain ⟨M, hM⟩ : ∃ M, s.n * s.l = M := ⟨_, rfl⟩
  rw [hM] at hm ⊢
  have e0 : IntKind.i64.wrap (s.b - 1) = s.b - 1 := IntWalk.i64_in _ (by omega)
  have e1 : IntKind.i64.wrap (s.n * s.l) = M := by rw [hM]; exact IntWalk.i64_in _ (by omega)
  have e2 : IntKind.i64.wrap (1 + M) = 1 + M := IntWalk.i64_in _ (by omega)
  have e3 : IntKind.i64.wrap (2 * x) = 2 * x := IntWalk.i64_in _ (by omega)
  have e4 : IntKind.i64.wrap (1 + M + 2 * x) = 1 + M + 2 * x := IntWalk.i64_in _ (by omega)
  have hbn := Blk.new w TLa (scells s)
  have hb0 := (Below.refl _ w).alloc (Nat.le_refl _) (.cells (scells s) TLa)
  have HBN := Lib.hid hbn
  have HB0 := Lib.hid hb0
  clear hbn hb0 hM h hv
  go_enter Try.func8, Try.ntmps8
  go_wp2_with (first
    | (go_at_call 5; refine (kv _).mono ?_; rintro y w1 ⟨rfl, hb1⟩; have bk := HBN.out.below hb1 HBN.out.lt; have c0 : w1.cell? ⟨w.heap.size, 0, none⟩ = some (.int .i64 s.n) := bk.cell 0; have c1 : w1.cell? ⟨w.heap.size, 1, none⟩ = some (.int .i64 s.b) := bk.cell 1; have c2 : w1.cell? ⟨w.heap.size, 2, none⟩ = some (.int .i64 s.l) := bk.cell 2; have HB1 := Lib.hid (HB0.out.trans (hb1.mono HB0.out.size)); clear bk hb1)
    | (go_at_call 12; refine (ki _).mono ?_; rintro y w2 ⟨rfl, rfl⟩))
  go_ret2
  exact ⟨rfl, HB1.out⟩
end Go.Proofs.Ytacogpogplionaa.SU
