/- Part 4 of the texts that the proof stands on, joined: WlNil, Rec12, RecIn, Rec13, BkIn, Seq. No condition. -/
import Derived.Test.YtakilnpfhljgfaaGreatM3
import Derived.Deep.Strs
import Derived.Laws.StructEq
import Derived.BigQuiet
import Derived.Deep.QuietTactic
import Derived.WalkKit
/- wlog: of a nil and of a zero log, of no disk. No condition. -/
namespace Go.Proofs.YtakilnpfhljgfaaGreat.WL
set_option maxRecDepth 100000
open Go.RowKit Go.Proofs.YtakilnpfhljgfaaGreat.DK Go.Proofs.YtakilnpfhljgfaaGreat.SU Go.Proofs.YtakilnpfhljgfaaGreat.BK
set_option linter.unusedVariables false
set_option linter.unusedSimpArgs false

theorem none_nil (W : World) : Calls Tryz.prog 45 #[.pointer none] W fun e w' => e = .returned (.bool true) ∧ W = w' := by
  go_enter Tryz.func45, Tryz.ntmps45
  go_wp2
  go_ret
  exact ⟨rfl, rfl⟩
theorem may_nil (W : World) : Calls Tryz.prog 39 #[.pointer none] W fun e w' => e = .returned (.int .i64 1) ∧ W = w' := by
  have knone := none_nil W
  go_enter Tryz.func39, Tryz.ntmps39
  go_wp2_with (first | (go_at_call 45; refine knone.mono ?_; rintro e w1 ⟨rfl, rfl⟩))
  go_ret
  exact ⟨rfl, rfl⟩
theorem add_nil (W : World) (A : Option Addr) (n c : Nat) : Calls Tryz.prog 10 #[.pointer none, .slice A n c] W fun e w' => e = .returned (.tuple #[.int .u64 0, .int .i64 1]) ∧ W = w' := by
  have kmay := may_nil W
  go_enter Tryz.func10, Tryz.ntmps10
  go_wp2_with (first | (go_at_call 39; refine kmay.mono ?_; rintro e w1 ⟨rfl, rfl⟩))
  go_ret2
  exact ⟨rfl, rfl⟩
theorem write_nil (W : World) : Calls Tryz.prog 20 #[.pointer none] W fun e w' => e = .returned (.tuple #[.int .i64 0, .int .i64 1]) ∧ W = w' := by
  have kmay := may_nil W
  go_enter Tryz.func20, Tryz.ntmps20
  go_wp2_with (first | (go_at_call 39; refine kmay.mono ?_; rintro e w1 ⟨rfl, rfl⟩))
  go_ret2
  exact ⟨rfl, rfl⟩
theorem sync_nil (W : World) : Calls Tryz.prog 18 #[.pointer none] W fun e w' => e = .returned (.int .i64 1) ∧ W = w' := by
  have kwrite := write_nil W
  go_enter Tryz.func18, Tryz.ntmps18
  go_wp2_with (first | (go_at_call 20; refine kwrite.mono ?_; rintro e w1 ⟨rfl, rfl⟩))
  go_ret
  exact ⟨rfl, rfl⟩
theorem free_nil (W : World) (l : Int) : Calls Tryz.prog 19 #[.pointer none, .int .u64 l] W fun e w' => e = .returned (.int .i64 1) ∧ W = w' := by
  have kmay := may_nil W
  go_enter Tryz.func19, Tryz.ntmps19
  go_wp2_with (first | (go_at_call 39; refine kmay.mono ?_; rintro e w1 ⟨rfl, rfl⟩))
  go_ret
  exact ⟨rfl, rfl⟩
theorem fits_nil (W : World) (n : Int) : Calls Tryz.prog 17 #[.pointer none, .int .i64 n] W fun e w' => e = .returned (.bool false) ∧ W = w' := by
  have kmay := may_nil W
  go_enter Tryz.func17, Tryz.ntmps17
  go_wp2_with (first | (go_at_call 39; refine kmay.mono ?_; rintro e w1 ⟨rfl, rfl⟩))
  go_ret
  exact ⟨rfl, rfl⟩
theorem next_nil (W : World) : Calls Tryz.prog 12 #[.pointer none] W fun e w' => e = .returned (.int .u64 0) ∧ W = w' := by
  have knone := none_nil W
  go_enter Tryz.func12, Tryz.ntmps12
  go_wp2_with (first | (go_at_call 45; refine knone.mono ?_; rintro e w1 ⟨rfl, rfl⟩))
  go_ret
  exact ⟨rfl, rfl⟩
theorem written_nil (W : World) : Calls Tryz.prog 21 #[.pointer none] W fun e w' => e = .returned (.int .u64 0) ∧ W = w' := by
  have knone := none_nil W
  go_enter Tryz.func21, Tryz.ntmps21
  go_wp2_with (first | (go_at_call 45; refine knone.mono ?_; rintro e w1 ⟨rfl, rfl⟩))
  go_ret
  exact ⟨rfl, rfl⟩
theorem synced_nil (W : World) : Calls Tryz.prog 22 #[.pointer none] W fun e w' => e = .returned (.int .u64 0) ∧ W = w' := by
  have knone := none_nil W
  go_enter Tryz.func22, Tryz.ntmps22
  go_wp2_with (first | (go_at_call 45; refine knone.mono ?_; rintro e w1 ⟨rfl, rfl⟩))
  go_ret
  exact ⟨rfl, rfl⟩
theorem first_nil (W : World) : Calls Tryz.prog 23 #[.pointer none] W fun e w' => e = .returned (.int .u64 0) ∧ W = w' := by
  have knone := none_nil W
  go_enter Tryz.func23, Tryz.ntmps23
  go_wp2_with (first | (go_at_call 45; refine knone.mono ?_; rintro e w1 ⟨rfl, rfl⟩))
  go_ret
  exact ⟨rfl, rfl⟩
theorem used_nil (W : World) : Calls Tryz.prog 13 #[.pointer none] W fun e w' => e = .returned (.int .i64 0) ∧ W = w' := by
  have knone := none_nil W
  go_enter Tryz.func13, Tryz.ntmps13
  go_wp2_with (first | (go_at_call 45; refine knone.mono ?_; rintro e w1 ⟨rfl, rfl⟩))
  go_ret
  exact ⟨rfl, rfl⟩
theorem pending_nil (W : World) : Calls Tryz.prog 14 #[.pointer none] W fun e w' => e = .returned (.int .i64 0) ∧ W = w' := by
  have knone := none_nil W
  go_enter Tryz.func14, Tryz.ntmps14
  go_wp2_with (first | (go_at_call 45; refine knone.mono ?_; rintro e w1 ⟨rfl, rfl⟩))
  go_ret
  exact ⟨rfl, rfl⟩
theorem broken_nil (W : World) : Calls Tryz.prog 15 #[.pointer none] W fun e w' => e = .returned (.bool false) ∧ W = w' := by
  have knone := none_nil W
  go_enter Tryz.func15, Tryz.ntmps15
  go_wp2_with (first | (go_at_call 45; refine knone.mono ?_; rintro e w1 ⟨rfl, rfl⟩))
  go_ret
  exact ⟨rfl, rfl⟩
theorem none_zero (W : World) {z : Nat} (c0 : W.cell? ⟨z, 0, none⟩ = some (.pointer none)) : Calls Tryz.prog 45 #[.pointer (some ⟨z, 0, none⟩)] W fun e w' => e = .returned (.bool true) ∧ W = w' := by
  go_enter Tryz.func45, Tryz.ntmps45
  go_wp2
  go_ret
  exact ⟨rfl, rfl⟩
theorem may_zero (W : World) {z : Nat} (c0 : W.cell? ⟨z, 0, none⟩ = some (.pointer none)) : Calls Tryz.prog 39 #[.pointer (some ⟨z, 0, none⟩)] W fun e w' => e = .returned (.int .i64 1) ∧ W = w' := by
  have knone := none_zero W c0
  go_enter Tryz.func39, Tryz.ntmps39
  go_wp2_with (first | (go_at_call 45; refine knone.mono ?_; rintro e w1 ⟨rfl, rfl⟩))
  go_ret
  exact ⟨rfl, rfl⟩
theorem add_zero (W : World) {z : Nat} (c0 : W.cell? ⟨z, 0, none⟩ = some (.pointer none)) (A : Option Addr) (n c : Nat) : Calls Tryz.prog 10 #[.pointer (some ⟨z, 0, none⟩), .slice A n c] W fun e w' => e = .returned (.tuple #[.int .u64 0, .int .i64 1]) ∧ W = w' := by
  have kmay := may_zero W c0
  go_enter Tryz.func10, Tryz.ntmps10
  go_wp2_with (first | (go_at_call 39; refine kmay.mono ?_; rintro e w1 ⟨rfl, rfl⟩))
  go_ret2
  exact ⟨rfl, rfl⟩
theorem write_zero (W : World) {z : Nat} (c0 : W.cell? ⟨z, 0, none⟩ = some (.pointer none)) : Calls Tryz.prog 20 #[.pointer (some ⟨z, 0, none⟩)] W fun e w' => e = .returned (.tuple #[.int .i64 0, .int .i64 1]) ∧ W = w' := by
  have kmay := may_zero W c0
  go_enter Tryz.func20, Tryz.ntmps20
  go_wp2_with (first | (go_at_call 39; refine kmay.mono ?_; rintro e w1 ⟨rfl, rfl⟩))
  go_ret2
  exact ⟨rfl, rfl⟩
theorem sync_zero (W : World) {z : Nat} (c0 : W.cell? ⟨z, 0, none⟩ = some (.pointer none)) : Calls Tryz.prog 18 #[.pointer (some ⟨z, 0, none⟩)] W fun e w' => e = .returned (.int .i64 1) ∧ W = w' := by
  have kwrite := write_zero W c0
  go_enter Tryz.func18, Tryz.ntmps18
  go_wp2_with (first | (go_at_call 20; refine kwrite.mono ?_; rintro e w1 ⟨rfl, rfl⟩))
  go_ret
  exact ⟨rfl, rfl⟩
theorem free_zero (W : World) {z : Nat} (c0 : W.cell? ⟨z, 0, none⟩ = some (.pointer none)) (l : Int) : Calls Tryz.prog 19 #[.pointer (some ⟨z, 0, none⟩), .int .u64 l] W fun e w' => e = .returned (.int .i64 1) ∧ W = w' := by
  have kmay := may_zero W c0
  go_enter Tryz.func19, Tryz.ntmps19
  go_wp2_with (first | (go_at_call 39; refine kmay.mono ?_; rintro e w1 ⟨rfl, rfl⟩))
  go_ret
  exact ⟨rfl, rfl⟩
theorem fits_zero (W : World) {z : Nat} (c0 : W.cell? ⟨z, 0, none⟩ = some (.pointer none)) (n : Int) : Calls Tryz.prog 17 #[.pointer (some ⟨z, 0, none⟩), .int .i64 n] W fun e w' => e = .returned (.bool false) ∧ W = w' := by
  have kmay := may_zero W c0
  go_enter Tryz.func17, Tryz.ntmps17
  go_wp2_with (first | (go_at_call 39; refine kmay.mono ?_; rintro e w1 ⟨rfl, rfl⟩))
  go_ret
  exact ⟨rfl, rfl⟩
theorem next_zero (W : World) {z : Nat} (c0 : W.cell? ⟨z, 0, none⟩ = some (.pointer none)) : Calls Tryz.prog 12 #[.pointer (some ⟨z, 0, none⟩)] W fun e w' => e = .returned (.int .u64 0) ∧ W = w' := by
  have knone := none_zero W c0
  go_enter Tryz.func12, Tryz.ntmps12
  go_wp2_with (first | (go_at_call 45; refine knone.mono ?_; rintro e w1 ⟨rfl, rfl⟩))
  go_ret
  exact ⟨rfl, rfl⟩
theorem written_zero (W : World) {z : Nat} (c0 : W.cell? ⟨z, 0, none⟩ = some (.pointer none)) : Calls Tryz.prog 21 #[.pointer (some ⟨z, 0, none⟩)] W fun e w' => e = .returned (.int .u64 0) ∧ W = w' := by
  have knone := none_zero W c0
  go_enter Tryz.func21, Tryz.ntmps21
  go_wp2_with (first | (go_at_call 45; refine knone.mono ?_; rintro e w1 ⟨rfl, rfl⟩))
  go_ret
  exact ⟨rfl, rfl⟩
theorem synced_zero (W : World) {z : Nat} (c0 : W.cell? ⟨z, 0, none⟩ = some (.pointer none)) : Calls Tryz.prog 22 #[.pointer (some ⟨z, 0, none⟩)] W fun e w' => e = .returned (.int .u64 0) ∧ W = w' := by
  have knone := none_zero W c0
  go_enter Tryz.func22, Tryz.ntmps22
  go_wp2_with (first | (go_at_call 45; refine knone.mono ?_; rintro e w1 ⟨rfl, rfl⟩))
  go_ret
  exact ⟨rfl, rfl⟩
theorem first_zero (W : World) {z : Nat} (c0 : W.cell? ⟨z, 0, none⟩ = some (.pointer none)) : Calls Tryz.prog 23 #[.pointer (some ⟨z, 0, none⟩)] W fun e w' => e = .returned (.int .u64 0) ∧ W = w' := by
  have knone := none_zero W c0
  go_enter Tryz.func23, Tryz.ntmps23
  go_wp2_with (first | (go_at_call 45; refine knone.mono ?_; rintro e w1 ⟨rfl, rfl⟩))
  go_ret
  exact ⟨rfl, rfl⟩
theorem used_zero (W : World) {z : Nat} (c0 : W.cell? ⟨z, 0, none⟩ = some (.pointer none)) : Calls Tryz.prog 13 #[.pointer (some ⟨z, 0, none⟩)] W fun e w' => e = .returned (.int .i64 0) ∧ W = w' := by
  have knone := none_zero W c0
  go_enter Tryz.func13, Tryz.ntmps13
  go_wp2_with (first | (go_at_call 45; refine knone.mono ?_; rintro e w1 ⟨rfl, rfl⟩))
  go_ret
  exact ⟨rfl, rfl⟩
theorem pending_zero (W : World) {z : Nat} (c0 : W.cell? ⟨z, 0, none⟩ = some (.pointer none)) : Calls Tryz.prog 14 #[.pointer (some ⟨z, 0, none⟩)] W fun e w' => e = .returned (.int .i64 0) ∧ W = w' := by
  have knone := none_zero W c0
  go_enter Tryz.func14, Tryz.ntmps14
  go_wp2_with (first | (go_at_call 45; refine knone.mono ?_; rintro e w1 ⟨rfl, rfl⟩))
  go_ret
  exact ⟨rfl, rfl⟩
theorem broken_zero (W : World) {z : Nat} (c0 : W.cell? ⟨z, 0, none⟩ = some (.pointer none)) : Calls Tryz.prog 15 #[.pointer (some ⟨z, 0, none⟩)] W fun e w' => e = .returned (.bool false) ∧ W = w' := by
  have knone := none_zero W c0
  go_enter Tryz.func15, Tryz.ntmps15
  go_wp2_with (first | (go_at_call 45; refine knone.mono ?_; rintro e w1 ⟨rfl, rfl⟩))
  go_ret
  exact ⟨rfl, rfl⟩
theorem open_nil (W : World) : Calls Tryz.prog 9 #[.pointer none, .agg #[.int .i64 2, .int .i64 10, .int .i64 8, .int .i64 4, .int .i64 32], .int .i64 1, .int .u64 9] W fun e w' => e = .returned (.tuple #[.pointer none, .int .i64 1]) ∧ Below W.heap.size W w' := by
  go_enter Tryz.func9, Tryz.ntmps9
  go_wp2
  go_ret2
  exact ⟨rfl, belowNew (belowSame W) _⟩
end Go.Proofs.YtakilnpfhljgfaaGreat.WL

/- commonslaw11.alive. No condition. -/
namespace Go.Proofs.YtakilnpfhljgfaaGreat.RC
set_option maxRecDepth 100000
open Go.RowKit Go.Proofs.YtakilnpfhljgfaaGreat.WI Go.Proofs.YtakilnpfhljgfaaGreat.SM
set_option linter.unusedVariables false
set_option linter.unusedSimpArgs false

end Go.Proofs.YtakilnpfhljgfaaGreat.RC

/- What a law is told of a head, of a record, of a row of records that came in. No condition. -/
namespace Go.Proofs.YtakilnpfhljgfaaGreat.RC
set_option maxRecDepth 100000
open Go.RowKit Go.Proofs.YtakilnpfhljgfaaGreat.WI Go.Proofs.YtakilnpfhljgfaaGreat.SM Go.WideShapes Go.ChangeShapes Go.Deep
set_option linter.unusedVariables false
set_option linter.unusedSimpArgs false

theorem list_any {α : Type} (d : α) {Q : Nat → α → Prop} (n : Nat) (each : ∀ i, i < n → ∃ z, Q i z) : ∃ zs : List α, zs.length = n ∧ ∀ i z, zs[i]? = some z → Q i z := by
  induction n with
  | zero => exact ⟨[], rfl, fun i z h => by simp at h⟩
  | succ n ih =>
    obtain ⟨zs, hz, hq⟩ := ih (fun i hi => each i (by omega))
    obtain ⟨z, hz1⟩ := each n (by omega)
    refine ⟨zs ++ [z], by simp [hz], fun i y hy => ?_⟩
    by_cases hil : i < n
    · rw [List.getElem?_append_left (by omega)] at hy; exact hq i y hy
    · rw [List.getElem?_append_right (by omega)] at hy
      have hi : i - zs.length = 0 := by
        rcases Nat.eq_zero_or_pos (i - zs.length) with h | h
        · exact h
        · rw [List.getElem?_eq_none (by simp; omega)] at hy; cases hy
      rw [hi] at hy
      obtain rfl : i = n := by omega
      simp at hy
      subst hy
      exact hz1
section
variable {H : Type} {enc : TypeId × Value → H} {w : World}
/-- A struct of three places. -/
theorem three {t t0 t1 t2 : TypeId} {fuel : Nat} {cs : List Value} {x : DataW H × List MemPlace}
    (hu : ∃ fs : Array Field, Tryz.prog.underlying t = some (.struct fs) ∧ fs.map (fun f : Field => (f.type, f.offset)) = #[(t0, 0), (t1, 1), (t2, 2)])
    (hc : Tryz.prog.cellsOf t = 3) (c0 : Tryz.prog.cellsOf t0 = 1) (c1 : Tryz.prog.cellsOf t1 = 1) (c2 : Tryz.prog.cellsOf t2 = 1)
    (h : DataW.trod enc Tryz.prog w 0 (fun _ => true) true fuel t cs = some x) :
    ∃ v0 v1 v2 y0 y1 y2 n, cs = [v0, v1, v2] ∧ DataW.trod enc Tryz.prog w 0 (fun _ => true) true n t0 [v0] = some y0 ∧ DataW.trod enc Tryz.prog w 0 (fun _ => true) true n t1 [v1] = some y1 ∧ DataW.trod enc Tryz.prog w 0 (fun _ => true) true n t2 [v2] = some y2 := by
  obtain ⟨fs, hfs, hff⟩ := hu
  obtain ⟨xs, m', _, _, hlen, hxl, hfld⟩ := DataW.trod_struct hfs h
  have hfsz : fs.size = 3 := by have := congrArg Array.size hff; simpa using this
  have hfa : ∀ (j : Nat) (t : TypeId) (o : Nat), (fs.map (fun f : Field => (f.type, f.offset)))[j]? = some (t, o) → ∃ f : Field, fs[j]? = some f ∧ f.type = t ∧ f.offset = o := by
    intro j t o hj
    rw [Array.getElem?_map] at hj
    cases hfj : fs[j]? with
    | none => rw [hfj] at hj; cases hj
    | some f => rw [hfj] at hj; injection hj with hj; injection hj with h1 h2; exact ⟨f, rfl, h1, h2⟩
  have get : ∀ (j : Nat) (t : TypeId), (fs.map (fun f : Field => (f.type, f.offset)))[j]? = some (t, j) → Tryz.prog.cellsOf t = 1 → j < fs.size → ∃ y, DataW.trod enc Tryz.prog w 0 (fun _ => true) true m' t ((cs.drop j).take 1) = some y := by
    intro j t hj hc hjs
    obtain ⟨f, hf1, hf2, hf3⟩ := hfa j t j hj
    have := hfld j f hf1
    rw [hf2, hf3, hc] at this
    rw [this]
    exact ⟨_, List.getElem?_eq_getElem (by rw [hxl]; exact hjs)⟩
  rw [hc] at hlen
  obtain ⟨y0, hy0⟩ := get 0 _ (by rw [hff]; rfl) c0 (by omega)
  obtain ⟨y1, hy1⟩ := get 1 _ (by rw [hff]; rfl) c1 (by omega)
  obtain ⟨y2, hy2⟩ := get 2 _ (by rw [hff]; rfl) c2 (by omega)
  match cs, hlen with
  | [v0, v1, v2], _ => exact ⟨v0, v1, v2, y0, y1, y2, m', rfl, hy0, hy1, hy2⟩
theorem under_head : ∃ fs : Array Field, Tryz.prog.underlying 113 = some (.struct fs) ∧ fs.map (fun f : Field => (f.type, f.offset)) = #[(37, 0), (37, 1), (3, 2)] := ⟨_, Tryz.underlying113, by kernel_rfl⟩
theorem under_rec : ∃ fs : Array Field, Tryz.prog.underlying 82 = some (.struct fs) ∧ fs.map (fun f : Field => (f.type, f.offset)) = #[(37, 0), (37, 1), (22, 2)] := ⟨_, Tryz.underlying82, by kernel_rfl⟩
theorem under_im : ∃ fs : Array Field, Tryz.prog.underlying TIm = some (.struct fs) ∧ fs.map (fun f : Field => (f.type, f.offset)) = #[(3, 0), (37, 1), (9, 2)] := ⟨_, Tryz.underlying41, by kernel_rfl⟩
theorem ci : Tryz.prog.cellsOf 3 = 1 := by kernel_rfl
theorem cu : Tryz.prog.cellsOf 37 = 1 := by kernel_rfl
theorem cst : Tryz.prog.cellsOf 9 = 1 := by kernel_rfl
theorem csl : Tryz.prog.cellsOf 22 = 1 := by kernel_rfl
theorem cim : Tryz.prog.cellsOf TIm = 3 := by kernel_rfl
theorem chd : Tryz.prog.cellsOf 113 = 3 := by kernel_rfl
theorem crc : Tryz.prog.cellsOf 82 = 3 := by kernel_rfl
structure HeadOk (e l a : Int) : Prop where
  e : 0 ≤ e ∧ e ≤ 18446744073709551615
  l : 0 ≤ l ∧ l ≤ 18446744073709551615
  a : -9223372036854775808 ≤ a ∧ a ≤ 9223372036854775807
theorem head_in {base : Nat} {v : Value} {d : DataW H} {p : List MemPlace} (hok : Value.okWide Tryz.prog w .any base 113 v) (h : DataW.Trod enc Tryz.prog w 0 (fun _ => true) true 113 v d p) :
    ∃ e l a, v = .agg #[.int .u64 e, .int .u64 l, .int .i64 a] ∧ HeadOk e l a := by
  obtain ⟨fs, hfs, hff⟩ := under_head
  obtain ⟨cs, rfl, hsz⟩ := okWide_struct hfs hok
  obtain ⟨fuel, hf⟩ := h
  obtain ⟨v0, v1, v2, y0, y1, y2, n, hcs, h0, h1, h2⟩ := three ⟨fs, hfs, hff⟩ chd cu cu ci hf
  have hcs' : cs = #[v0, v1, v2] := by
    have : (Value.cells (.agg cs)).toList = cs.toList := by simp [Value.cells]
    rw [this] at hcs
    exact Array.toList_inj.1 (by rw [hcs])
  obtain ⟨z0, e0, _, w0⟩ := DataW.trod_int Tryz.underlying37 h0
  obtain ⟨z1, e1, _, w1⟩ := DataW.trod_int Tryz.underlying37 h1
  obtain ⟨z2, e2, _, w2⟩ := DataW.trod_int Tryz.underlying3 h2
  simp at e0 e1 e2
  subst e0 e1 e2
  exact ⟨z0, z1, z2, by rw [hcs'], ⟨bounds_u64 w0, bounds_u64 w1, bounds_i64 w2⟩⟩
/-- A row of images that came in, wherever it was read. -/
theorem images_in {fuel : Nat} {v : Value} {x : DataW H × List MemPlace} (hf : DataW.trod enc Tryz.prog w 0 (fun _ => true) true fuel 22 [v] = some x) :
    ∃ A n c xs, v = .slice A n c ∧ Ims w A n c xs := by
  rcases open_slice Tryz.underlying22 hf with ⟨hcs, _⟩ | ⟨a, len, cap, m, nn, D, Pl, hcs, _, hl, hm, hmm, _, hi⟩
  · simp at hcs
    exact ⟨none, 0, 0, [], hcs, by omega, by unfold maxLen; omega, rfl, fun o ho => by simp at ho, fun h => by omega⟩
  · simp at hcs
    have each : ∀ i, i < len → ∃ o : Im, ImOk o ∧ ∀ j u, (ival o)[j]? = some u → w.cell? (a.add (i * 3 + j)) = some u := by
      intro i hil
      obtain ⟨cs', h1, h2⟩ := hi i (by rw [hmm]; simp; omega)
      rw [show Tryz.prog.cellsOf 41 = 3 from cim] at h1
      obtain ⟨_, hcl, hat⟩ := World.cells?_some h1
      obtain ⟨v0, v1, v2, y0, y1, y2, n, rfl, k0, k1, k2⟩ := three under_im cim ci cu cst h2
      obtain ⟨z0, e0, _, w0⟩ := DataW.trod_int Tryz.underlying3 k0
      obtain ⟨z1, e1, _, w1⟩ := DataW.trod_int Tryz.underlying37 k1
      obtain ⟨z2, e2, _, w2⟩ := DataW.trod_string Tryz.underlying9 k2
      simp at e0 e1 e2
      subst e0 e1 e2
      refine ⟨⟨z0, z1, z2⟩, ⟨bounds_i64 w0, bounds_u64 w1, by unfold maxLen at w2; exact w2⟩, fun j u hu => ?_⟩
      have hj3 : j < 3 := by
        rcases Nat.lt_or_ge j 3 with h | h
        · exact h
        · rw [List.getElem?_eq_none (by simpa [ival] using h)] at hu; cases hu
      have h6 := hat j hj3
      rw [add_add_] at h6
      rw [h6]
      exact hu
    obtain ⟨xs, hxl, hxs⟩ := list_any im0 len each
    refine ⟨_, _, _, xs, hcs, hl, hm, hxl, fun o ho => ?_, fun h0 => ?_⟩
    · obtain ⟨i, hi2, rfl⟩ := List.mem_iff_getElem.1 ho
      exact (hxs i _ (List.getElem?_eq_getElem hi2)).1
    · obtain ⟨o, ho⟩ : ∃ o, xs[0]? = some o := ⟨_, List.getElem?_eq_getElem (by omega)⟩
      have h00 := (hxs 0 o ho).2 0 _ (by unfold ival; rfl)
      obtain ⟨b, off, rfl, _⟩ := ints_at (a := a) (k := .i64) (zs := [o.b]) (w := w) (fun i hi => by
        obtain rfl : i = 0 := by simpa using hi
        exact h00) (by simp)
      refine ⟨b, off, rfl, World.block_lt_of_cell? w _ h00, fun i o ho j u hu => ?_⟩
      rw [← Go.WideShapes.add_plain]
      exact (hxs i o ho).2 j u hu
structure RecOk (w : World) (e l : Int) (A : Option Addr) (n c : Nat) (xs : List Im) : Prop where
  e : 0 ≤ e ∧ e ≤ 18446744073709551615
  l : 0 ≤ l ∧ l ≤ 18446744073709551615
  ims : Ims w A n c xs
theorem rec_in_cells {fuel : Nat} {cs : List Value} {x : DataW H × List MemPlace} (hf : DataW.trod enc Tryz.prog w 0 (fun _ => true) true fuel 82 cs = some x) :
    ∃ e l A n c xs, cs = [.int .u64 e, .int .u64 l, .slice A n c] ∧ RecOk w e l A n c xs := by
  obtain ⟨v0, v1, v2, y0, y1, y2, n, rfl, h0, h1, h2⟩ := three under_rec crc cu cu csl hf
  obtain ⟨z0, e0, _, w0⟩ := DataW.trod_int Tryz.underlying37 h0
  obtain ⟨z1, e1, _, w1⟩ := DataW.trod_int Tryz.underlying37 h1
  obtain ⟨A, k, c, xs, rfl, hI⟩ := images_in h2
  simp at e0 e1
  subst e0 e1
  exact ⟨z0, z1, A, k, c, xs, rfl, ⟨bounds_u64 w0, bounds_u64 w1, hI⟩⟩
theorem rec_in {base : Nat} {v : Value} {d : DataW H} {p : List MemPlace} (hok : Value.okWide Tryz.prog w .any base 82 v) (h : DataW.Trod enc Tryz.prog w 0 (fun _ => true) true 82 v d p) :
    ∃ e l A n c xs, v = .agg #[.int .u64 e, .int .u64 l, .slice A n c] ∧ RecOk w e l A n c xs := by
  obtain ⟨fs, hfs, hff⟩ := under_rec
  obtain ⟨cs, rfl, hsz⟩ := okWide_struct hfs hok
  obtain ⟨fuel, hf⟩ := h
  obtain ⟨e, l, A, n, c, xs, hcs, hr⟩ := rec_in_cells hf
  have hcs' : cs = #[.int .u64 e, .int .u64 l, .slice A n c] := by
    have : (Value.cells (.agg cs)).toList = cs.toList := by simp [Value.cells]
    rw [this] at hcs
    exact Array.toList_inj.1 (by rw [hcs])
  exact ⟨e, l, A, n, c, xs, by rw [hcs'], hr⟩
/-- A record as it stands in memory. -/
structure Re where
  e : Int
  l : Int
  A : Option Addr
  n : Nat
  c : Nat
  xs : List Im
abbrev re0 : Re := ⟨0, 0, none, 0, 0, []⟩
def rval (r : Re) : List Value := [.int .u64 r.e, .int .u64 r.l, .slice r.A r.n r.c]
def RecsIs (w : World) (a : Option Addr) (len cap : Nat) (rs : List Re) : Prop :=
  len ≤ cap ∧ cap ≤ maxLen ∧ rs.length = len ∧ (∀ r ∈ rs, RecOk w r.e r.l r.A r.n r.c r.xs) ∧
  (0 < len → ∃ b off, a = some ⟨b, off, none⟩ ∧ b < w.heap.size ∧ ∀ i r, rs[i]? = some r → ∀ j u, (rval r)[j]? = some u → w.cell? ⟨b, off + (i * 3 + j), none⟩ = some u)
end
end Go.Proofs.YtakilnpfhljgfaaGreat.RC

/- Light of images, SameImages of two rows that read alike. No condition. -/
namespace Go.Proofs.YtakilnpfhljgfaaGreat.RC
set_option maxRecDepth 100000
open Go.RowKit Go.Proofs.YtakilnpfhljgfaaGreat.WI Go.Proofs.YtakilnpfhljgfaaGreat.SM
set_option linter.unusedVariables false
set_option linter.unusedSimpArgs false

def roomF (left sz : Int) : Int := if left < 0 ∨ left < sz then -1 else left - sz
theorem room_one (left a : Int) {W : World} {g : Nat} (h : Blk W g 3 #[.int .i64 a]) (ha : 0 ≤ a ∧ a ≤ 9223372036854775807) (h2 : -1 ≤ left) (h3 : left ≤ 1000000000) :
    Calls Tryz.prog 24 #[.int .i64 left, .slice (some ⟨g, 0, none⟩) 1 1] W fun e w' => e = .returned (.int .i64 (roomF left a)) ∧ W = w' := by
  have c0 : W.cell? ⟨g, 0, none⟩ = some (.int .i64 a) := h.cell 0
  clear h
  by_cases a1 : left < 0
  · have r : roomF left a = -1 := by unfold roomF; rw [if_pos (.inl a1)]
    rw [r]
    clear r
    go_enter Tryz.func24, Tryz.ntmps24
    go_wp2
    go_loop [0, 5] (fun x i => x = .int .i64 left ∧ i = .int .i64 0) (fun _ i => 2 - (intOf i).toNat)
    case atStart => exact ⟨rfl, rfl⟩
    case round =>
      obtain ⟨rfl, rfl⟩ := hrel
      go_wp2
      go_ret
      exact ⟨rfl, rfl⟩
  by_cases a2 : left < a
  · have r : roomF left a = -1 := by unfold roomF; rw [if_pos (.inr a2)]
    rw [r]
    clear r
    go_enter Tryz.func24, Tryz.ntmps24
    go_wp2
    go_loop [0, 5] (fun x i => x = .int .i64 left ∧ i = .int .i64 0) (fun _ i => 2 - (intOf i).toNat)
    case atStart => exact ⟨rfl, rfl⟩
    case round =>
      obtain ⟨rfl, rfl⟩ := hrel
      go_wp2
      go_ret
      exact ⟨rfl, rfl⟩
  have r : roomF left a = left - a := by unfold roomF; rw [if_neg (by omega)]
  rw [r]
  have e2 : IntKind.i64.wrap (left - a) = left - a := IntWalk.i64_in _ (by omega)
  clear r
  go_enter Tryz.func24, Tryz.ntmps24
  go_wp2
  go_loop [0, 5] (fun x i => (x = .int .i64 left ∧ i = .int .i64 0) ∨ (x = .int .i64 (left - a) ∧ i = .int .i64 1)) (fun _ i => 2 - (intOf i).toNat)
  case atStart => exact .inl ⟨rfl, rfl⟩
  case round =>
    rcases hrel with ⟨rfl, rfl⟩ | ⟨rfl, rfl⟩
    · go_wp2
      go_round
      case rel => exact .inr ⟨rfl, rfl⟩
      case measure => simp [intOf]
    · go_wp2
      go_ret
      exact ⟨rfl, rfl⟩
def lightR (r : Int) (xs : List Im) : Int := xs.foldl (fun r x => roomF r (x.d.size : Int)) r
theorem lightR_neg (xs : List Im) : ∀ r : Int, r < 0 → lightR r xs < 0 := by
  induction xs with
  | nil => intro r h; exact h
  | cons x xs ih => intro r h; exact ih (roomF r (x.d.size : Int)) (by unfold roomF; rw [if_pos (.inl h)]; omega)
/-- What Light tells. -/
def lightB (s r0 : Int) (xs : List Im) : Bool := decide ((xs.length : Int) ≤ s) && decide (0 ≤ lightR r0 xs)
def LightOut (b : Bool) (w : World) (e : Ending) (w' : World) : Prop := e = .returned (.bool b) ∧ Below w.heap.size w w'
set_option maxHeartbeats 4000000 in
theorem light_any (s r0 : Int) (hr : 0 ≤ r0 ∧ r0 ≤ 100000) (w : World) (A : Option Addr) (n c : Nat) (xs : List Im) (h : Ims w A n c xs) :
    Calls Tryz.prog 6 #[.int .i64 s, .int .i64 r0, .slice A n c] w (LightOut (lightB s r0 xs) w) := by
  have hlc := h.1
  have hcm := h.2.1
  unfold maxLen at hcm
  by_cases hs : s < (n : Int)
  · have n1 : decide (s < (n : Int)) = true := by simpa using hs
    have hL : lightB s r0 xs = false := by unfold lightB; rw [h.2.2.1, decide_eq_false (by omega)]; rfl
    rw [hL]
    clear h
    go_enter Tryz.func6, Tryz.ntmps6
    go_wp2_with fail
    exact end_ret (t := 6) (v := .bool false) (by kernel_rfl) rfl rfl ⟨rfl, belowSame _⟩
  have n1 : decide (s < (n : Int)) = false := by simpa using hs
  have HX := Lib.hid h
  have hL : lightB s r0 xs = decide (0 ≤ lightR r0 xs) := by unfold lightB; rw [h.2.2.1, decide_eq_true (by omega)]; rfl
  have HN := Lib.hid h.2.2.1
  rw [hL]
  obtain ⟨F, hF⟩ : ∃ F, lightR r0 xs = F := ⟨_, rfl⟩
  rw [hF]
  have HF : Hid (lightR r0 (xs.drop 0) = F) := Lib.hid hF
  clear h hs hL hF
  go_enter Tryz.func6, Tryz.ntmps6
  go_wp2_with fail
  go_loopw [1, 7] (fun x i wr => ∃ (k : Nat) (r : Int), k ≤ n ∧ i = .int .i64 (k : Int) ∧ x = .int .i64 r ∧ -1 ≤ r ∧ r ≤ 100000 ∧ Hid (lightR r (xs.drop k) = F) ∧ Hid (Below w.heap.size w wr)) (fun _ i _ => n - (intOf i).toNat)
  case atStart => exact ⟨0, r0, by omega, rfl, rfl, by omega, by omega, HF, Lib.hid (belowSame _)⟩
  case round =>
    obtain ⟨k, r, hk, rfl, rfl, hr1, hr2, HK, HB⟩ := hrel
    by_cases hlt : k < n
    · by_cases hneg : r < 0
      · have n2 : decide ((0 : Int) ≤ r) = false := by simp; omega
        have hF : decide (0 ≤ F) = false := by have := lightR_neg (xs.drop k) r hneg; rw [HK.out] at this; simp; omega
        clear hneg
        go_wp2_with fail
        rw [hF]
        exact end_ret (t := 6) (v := .bool false) (by kernel_rfl) rfl rfl ⟨rfl, HB.out⟩
      · have n2 : decide ((0 : Int) ≤ r) = true := by simp; omega
        obtain ⟨b, off, x, rfl, hx, hok, hbl, hkc, c0, c1, c2⟩ := (HX.out.old HB.out).at_ hlt
        have hd := hok.d
        have kr := fun (W : World) (g : Nat) (hB : Blk W g 3 #[.int .i64 (x.d.size : Int)]) => room_one r (x.d.size : Int) hB (by omega) (by omega) (by omega)
        have e1 : IntKind.i64.wrap ((k : Int) + 1) = (k : Int) + 1 := IntWalk.i64_in _ (by omega)
        have hrr : -1 ≤ roomF r (x.d.size : Int) ∧ roomF r (x.d.size : Int) ≤ 100000 := by unfold roomF; split <;> omega
        obtain ⟨R, hR⟩ : ∃ R, roomF r (x.d.size : Int) = R := ⟨_, rfl⟩
        have HK2 : Hid (lightR R (xs.drop (k + 1)) = F) := Lib.hid (by
          have h1 := HK.out
          have hxl : k < xs.length := by have := HN.out; omega
          rw [List.drop_eq_getElem_cons hxl] at h1
          have hxe : xs[k] = x := Option.some.inj ((List.getElem?_eq_getElem hxl).symm.trans hx)
          rw [hxe] at h1
          rw [← hR]
          exact h1)
        rw [hR] at kr hrr
        clear hx hok hR hneg c0 c1
        go_wp2_with (go_at_call 24; refine (kr _ _ (Blk.new _ _ _)).mono ?_; rintro e w5 ⟨rfl, rfl⟩)
        go_roundw
        case rel => exact ⟨k + 1, R, by omega, by go_num, rfl, hrr.1, hrr.2, HK2, Lib.hid (belowNew HB.out _)⟩
        case measure => simp [intOf]; omega
    · obtain rfl : k = n := by omega
      by_cases hneg : r < 0
      · have n2 : decide ((0 : Int) ≤ r) = false := by simp; omega
        have hF : decide (0 ≤ F) = false := by have := lightR_neg (xs.drop k) r hneg; rw [HK.out] at this; simp; omega
        clear hneg
        go_wp2_with fail
        rw [hF]
        exact end_ret (t := 6) (v := .bool false) (by kernel_rfl) rfl rfl ⟨rfl, HB.out⟩
      · have n2 : decide ((0 : Int) ≤ r) = true := by simp; omega
        have hF : decide (0 ≤ F) = true := by
          have := HK.out
          rw [List.drop_eq_nil_of_le (by have := HN.out; omega)] at this
          have h2 : r = F := this
          simp; omega
        clear hneg
        go_wp2_with fail
        rw [hF]
        exact end_ret (t := 6) (v := .bool true) (by kernel_rfl) rfl rfl ⟨rfl, HB.out⟩
end Go.Proofs.YtakilnpfhljgfaaGreat.RC

/- What a law is told of an image that came in. No condition. -/
namespace Go.Proofs.YtakilnpfhljgfaaGreat.BK
set_option maxRecDepth 100000
open Go.RowKit Go.WideShapes Go.ChangeShapes Go.Deep
set_option linter.unusedVariables false
set_option linter.unusedSimpArgs false

section
variable {H : Type} {enc : TypeId × Value → H} {w : World}
/-- A struct of three places. -/
theorem three {t t0 t1 t2 : TypeId} {fuel : Nat} {cs : List Value} {x : DataW H × List MemPlace}
    (hu : ∃ fs : Array Field, Tryz.prog.underlying t = some (.struct fs) ∧ fs.map (fun f : Field => (f.type, f.offset)) = #[(t0, 0), (t1, 1), (t2, 2)])
    (hc : Tryz.prog.cellsOf t = 3) (c0 : Tryz.prog.cellsOf t0 = 1) (c1 : Tryz.prog.cellsOf t1 = 1) (c2 : Tryz.prog.cellsOf t2 = 1)
    (h : DataW.trod enc Tryz.prog w 0 (fun _ => true) true fuel t cs = some x) :
    ∃ v0 v1 v2 y0 y1 y2 n, cs = [v0, v1, v2] ∧ DataW.trod enc Tryz.prog w 0 (fun _ => true) true n t0 [v0] = some y0 ∧ DataW.trod enc Tryz.prog w 0 (fun _ => true) true n t1 [v1] = some y1 ∧ DataW.trod enc Tryz.prog w 0 (fun _ => true) true n t2 [v2] = some y2 := by
  obtain ⟨fs, hfs, hff⟩ := hu
  obtain ⟨xs, m', _, _, hlen, hxl, hfld⟩ := DataW.trod_struct hfs h
  have hfsz : fs.size = 3 := by have := congrArg Array.size hff; simpa using this
  have hfa : ∀ (j : Nat) (t : TypeId) (o : Nat), (fs.map (fun f : Field => (f.type, f.offset)))[j]? = some (t, o) → ∃ f : Field, fs[j]? = some f ∧ f.type = t ∧ f.offset = o := by
    intro j t o hj
    rw [Array.getElem?_map] at hj
    cases hfj : fs[j]? with
    | none => rw [hfj] at hj; cases hj
    | some f => rw [hfj] at hj; injection hj with hj; injection hj with h1 h2; exact ⟨f, rfl, h1, h2⟩
  have get : ∀ (j : Nat) (t : TypeId), (fs.map (fun f : Field => (f.type, f.offset)))[j]? = some (t, j) → Tryz.prog.cellsOf t = 1 → j < fs.size → ∃ y, DataW.trod enc Tryz.prog w 0 (fun _ => true) true m' t ((cs.drop j).take 1) = some y := by
    intro j t hj hc hjs
    obtain ⟨f, hf1, hf2, hf3⟩ := hfa j t j hj
    have := hfld j f hf1
    rw [hf2, hf3, hc] at this
    rw [this]
    exact ⟨_, List.getElem?_eq_getElem (by rw [hxl]; exact hjs)⟩
  rw [hc] at hlen
  obtain ⟨y0, hy0⟩ := get 0 _ (by rw [hff]; rfl) c0 (by omega)
  obtain ⟨y1, hy1⟩ := get 1 _ (by rw [hff]; rfl) c1 (by omega)
  obtain ⟨y2, hy2⟩ := get 2 _ (by rw [hff]; rfl) c2 (by omega)
  match cs, hlen with
  | [v0, v1, v2], _ => exact ⟨v0, v1, v2, y0, y1, y2, m', rfl, hy0, hy1, hy2⟩
theorem under_im : ∃ fs : Array Field, Tryz.prog.underlying TIm = some (.struct fs) ∧ fs.map (fun f : Field => (f.type, f.offset)) = #[(3, 0), (37, 1), (9, 2)] := ⟨_, Tryz.underlying41, by kernel_rfl⟩
theorem ci : Tryz.prog.cellsOf 3 = 1 := by kernel_rfl
theorem cu : Tryz.prog.cellsOf 37 = 1 := by kernel_rfl
theorem cst : Tryz.prog.cellsOf 9 = 1 := by kernel_rfl
theorem cim : Tryz.prog.cellsOf TIm = 3 := by kernel_rfl
theorem im_in {base : Nat} {v : Value} {d : DataW H} {p : List MemPlace} (hok : Value.okWide Tryz.prog w .any base TIm v) (h : DataW.Trod enc Tryz.prog w 0 (fun _ => true) true TIm v d p) :
    ∃ x : Im, v = iagg x ∧ ImOk x := by
  obtain ⟨fs, hfs, hff⟩ := under_im
  obtain ⟨cs, rfl, hsz⟩ := okWide_struct hfs hok
  obtain ⟨fuel, hf⟩ := h
  obtain ⟨v0, v1, v2, y0, y1, y2, n, hcs, h0, h1, h2⟩ := three ⟨fs, hfs, hff⟩ cim ci cu cst hf
  have hcs' : cs = #[v0, v1, v2] := by
    have : (Value.cells (.agg cs)).toList = cs.toList := by simp [Value.cells]
    rw [this] at hcs
    exact Array.toList_inj.1 (by rw [hcs])
  subst hcs'
  obtain ⟨z0, e0, _, w0⟩ := DataW.trod_int Tryz.underlying3 h0
  obtain ⟨z1, e1, _, w1⟩ := DataW.trod_int Tryz.underlying37 h1
  obtain ⟨z2, e2, _, w2⟩ := DataW.trod_string Tryz.underlying9 h2
  simp at e0 e1 e2
  subst e0 e1 e2
  exact ⟨⟨z0, z1, z2⟩, rfl, ⟨bounds_i64 w0, bounds_u64 w1, by unfold maxLen at w2; exact w2⟩⟩
end
end Go.Proofs.YtakilnpfhljgfaaGreat.BK

/- Whole numbers one behind the other, and 'x & 15' of a number. Plain laws, no program. No condition. -/
namespace Go.Proofs.YtakilnpfhljgfaaGreat
set_option maxRecDepth 100000
open Go.RowKit
set_option linter.unusedVariables false

/-- o, o + 1, .., o + n - 1. -/
def seqI (o : Nat) : Nat → List Int
  | 0 => []
  | n + 1 => (o : Int) :: seqI (o + 1) n
theorem seqI_len (o n : Nat) : (seqI o n).length = n := by
  induction n generalizing o with
  | zero => rfl
  | succ n ih => simp [seqI, ih]
theorem seqI_snoc (o n : Nat) : seqI o n ++ [((o + n : Nat) : Int)] = seqI o (n + 1) := by
  induction n generalizing o with
  | zero => rfl
  | succ n ih =>
    show (o : Int) :: (seqI (o + 1) n ++ [((o + (n + 1) : Nat) : Int)]) = (o : Int) :: seqI (o + 1) (n + 1)
    rw [← ih (o + 1)]
    congr 4
    omega
theorem seqI_drop (o n k : Nat) : (seqI o n).drop k = seqI (o + k) (n - k) := by
  induction k generalizing o n with
  | zero => simp
  | succ k ih =>
    cases n with
    | zero => simp [seqI]
    | succ n =>
      show (seqI (o + 1) n).drop k = _
      rw [ih, show o + 1 + k = o + (k + 1) from by omega, show n + 1 - (k + 1) = n - k from by omega]
theorem seqI_get (o n k : Nat) (h : k < n) : (seqI o n).getD k 0 = ((o + k : Nat) : Int) := by
  induction k generalizing o n with
  | zero =>
    cases n with
    | zero => omega
    | succ n => rfl
  | succ k ih =>
    cases n with
    | zero => omega
    | succ n =>
      show (seqI (o + 1) n).getD k 0 = _
      rw [ih (o + 1) n (by omega), show o + 1 + k = o + (k + 1) from by omega]

theorem bits_low (x : Int) (j m : Nat) (hj : j < 63) (hm : m = 2 ^ j - 1) : 0 ≤ bits .and .i64 x (m : Int) ∧ bits .and .i64 x (m : Int) ≤ (m : Int) := by
  have hp : 2 ^ j ≤ 2 ^ 62 := Nat.pow_le_pow_right (by omega) (by omega)
  have hm' : m < 9223372036854775808 := by omega
  show 0 ≤ IntKind.i64.wrap ((BitVec.ofInt 64 x &&& BitVec.ofInt 64 (m : Int)).toNat : Int) ∧ IntKind.i64.wrap ((BitVec.ofInt 64 x &&& BitVec.ofInt 64 (m : Int)).toNat : Int) ≤ (m : Int)
  have h2 : (BitVec.ofInt 64 (m : Int)).toNat = m := by
    rw [BitVec.ofInt_natCast, BitVec.toNat_ofNat]; exact Nat.mod_eq_of_lt (by omega)
  rw [BitVec.toNat_and, h2]
  have hle : (BitVec.ofInt 64 x).toNat &&& m ≤ m := Nat.and_le_right
  rw [IntKind.wrap_i64]
  omega
theorem and15 (x : Int) : 0 ≤ bits .and .i64 x 15 ∧ bits .and .i64 x 15 ≤ 15 := bits_low x 4 15 (by omega) (by omega)
end Go.Proofs.YtakilnpfhljgfaaGreat
