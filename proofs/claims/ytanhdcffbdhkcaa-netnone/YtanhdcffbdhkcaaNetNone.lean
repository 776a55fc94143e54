/- NetNone: calls of a nil net; the walk. No condition. -/
import Derived.Test.YtanhdcffbdhkcaaNet6
import Derived.Test.YtanhdcffbdhkcaaRow
namespace Go.Proofs.Ytanhdcffbdhkcaa.netNone
open Go.RowKit Go.Proofs.Ytanhdcffbdhkcaa.RP Go.Proofs.Ytanhdcffbdhkcaa.CM Go.Proofs.Ytanhdcffbdhkcaa.NT
set_option linter.unusedVariables false

theorem list_nil (w : World) : Calls Try.prog 29 #[.pointer none] w fun e w' => e = .returned (.pointer none) ∧ w = w' := by
  go_enter Try.func29, Try.ntmps29
  go_wp2
  go_ret
  exact ⟨rfl, rfl⟩
theorem rlen_nil (w : World) : Calls Try.prog 35 #[.pointer none] w fun e w' => e = .returned (.int .i64 0) ∧ w = w' := by
  go_enter Try.func35, Try.ntmps35
  go_wp2
  go_ret
  exact ⟨rfl, rfl⟩
theorem rpeek_nil (k : Int) (w : World) : Calls Try.prog 40 #[.pointer none, .int .i64 k] w fun e w' => e = .returned (.tuple #[agg pk0, .bool false]) ∧ Below w.heap.size w w' := by
  by_cases h0 : k < 0
  · go_enter Try.func40, Try.ntmps40
    go_wp2_with (go_at_call 35; refine (rlen_nil _).mono ?_; rintro e w' ⟨rfl, rfl⟩)
    exact bodyPost_ret (v := .tuple #[agg pk0, .bool false]) (by simp [results, Try.results40, go_sem]; exact ⟨rfl, rfl, rfl⟩) rfl ⟨rfl, ((Below.refl _ _).alloc (Nat.le_refl _) _).alloc (by simp) _⟩
  · have h1 : (0 : Int) ≤ k := by omega
    go_enter Try.func40, Try.ntmps40
    go_wp2_with (go_at_call 35; refine (rlen_nil _).mono ?_; rintro e w' ⟨rfl, rfl⟩)
    exact bodyPost_ret (v := .tuple #[agg pk0, .bool false]) (by simp [results, Try.results40, go_sem]; exact ⟨rfl, rfl, rfl⟩) rfl ⟨rfl, ((Below.refl _ _).alloc (Nat.le_refl _) _).alloc (by simp) _⟩
theorem rdrop_nil (w : World) : Calls Try.prog 45 #[.pointer none, .int .i64 0] w fun e w' => e = .returned (.int .i64 0) ∧ w = w' := by
  go_enter Try.func45, Try.ntmps45
  go_wp2_with (go_at_call 35; refine (rlen_nil _).mono ?_; rintro e w' ⟨rfl, rfl⟩)
  go_ret
  exact ⟨rfl, rfl⟩
theorem rclear_nil (w : World) : Calls Try.prog 36 #[.pointer none] w fun e w' => e = .returned (.int .i64 0) ∧ w = w' := by
  go_enter Try.func36, Try.ntmps36
  go_wp2_with (first | (go_at_call 35; refine (rlen_nil _).mono ?_; rintro e w' ⟨rfl, rfl⟩) | (go_at_call 45; refine (rdrop_nil _).mono ?_; rintro e w' ⟨rfl, rfl⟩))
  go_ret
  exact ⟨rfl, rfl⟩
theorem peek_nil (k : Int) (w : World) : Calls Try.prog 27 #[.pointer none, .int .i64 k] w fun e w' => e = .returned (.tuple #[agg pk0, .bool false]) ∧ Below w.heap.size w w' := by
  go_enter Try.func27, Try.ntmps27
  have hx : ∀ w2, Below (w.alloc box0).heap.size (w.alloc box0) w2 → Blk w2 w.heap.size TP #[.int .i64 0, .int .i64 0, .string (ByteArray.mk #[])] := fun w2 hb => (Blk.new w TP _).keeps (Keeps.of_below hb (fun _ => False)) (fun h => h)
  have HX := Lib.hid hx
  clear hx
  go_wp2_with (first
    | (go_at_call 29; refine (list_nil _).mono ?_; rintro e w' ⟨rfl, rfl⟩)
    | (go_at_call 40; refine (rpeek_nil k _).mono ?_; rintro e w2 ⟨rfl, hb2⟩; have b2 := HX.out w2 hb2; have c0 := b2.cell 0; have c1 := b2.cell 1; have c2 := b2.cell 2; have f0 := b2.frozen 0; have f1 := b2.frozen 1; have f2 := b2.frozen 2; have HB := Lib.hid (belowThen (belowNew (belowSame _) _) hb2); clear b2 hb2))
  exact bodyPost_ret (v := .tuple #[agg pk0, .bool false]) (by simp [results, Try.results27, go_sem, c0, c1, c2]) rfl ⟨rfl, (((HB.out.setCell (by simp) _).setCell (by simp) _).setCell (by simp) _)⟩
theorem take_nil (k : Int) (w : World) : Calls Try.prog 13 #[.pointer none, .int .i64 k] w fun e w' => e = .returned (.tuple #[agg pk0, .bool false]) ∧ Below w.heap.size w w' := by
  go_enter Try.func13, Try.ntmps13
  have hx : ∀ w2, Below (w.alloc box0).heap.size (w.alloc box0) w2 → Blk w2 w.heap.size TP #[.int .i64 0, .int .i64 0, .string (ByteArray.mk #[])] := fun w2 hb => (Blk.new w TP _).keeps (Keeps.of_below hb (fun _ => False)) (fun h => h)
  have HX := Lib.hid hx
  clear hx
  go_wp2_with (go_at_call 27; refine (peek_nil k _).mono ?_; rintro e w2 ⟨rfl, hb2⟩; have b2 := HX.out w2 hb2; have c0 := fun o => (b2.alloc o).cell 0; have c1 := fun o => (b2.alloc o).cell 1; have c2 := fun o => (b2.alloc o).cell 2; have f0 := fun o => (b2.alloc o).frozen 0; have f1 := fun o => (b2.alloc o).frozen 1; have f2 := fun o => (b2.alloc o).frozen 2; have HB := Lib.hid (belowThen (belowNew (belowSame _) _) hb2); clear b2 hb2)
  exact bodyPost_ret (v := .tuple #[agg pk0, .bool false]) (by simp [results, Try.results13, go_sem, c0, c1, c2]) rfl ⟨rfl, (((belowNew HB.out _).setCell (by simp) _).setCell (by simp) _).setCell (by simp) _⟩
theorem drop_nil (k : Int) (w : World) : Calls Try.prog 11 #[.pointer none, .int .i64 k] w fun e w' => e = .returned (.bool false) ∧ Below w.heap.size w w' := by
  go_enter Try.func11, Try.ntmps11
  go_wp2_with (go_at_call 13; refine (take_nil k _).mono ?_; rintro e w1 ⟨rfl, hb⟩)
  go_ret
  exact ⟨rfl, belowNew hb _⟩
theorem double_nil (k : Int) (w : World) : Calls Try.prog 10 #[.pointer none, .int .i64 k] w fun e w' => e = .returned (.bool false) ∧ Below w.heap.size w w' := by
  go_enter Try.func10, Try.ntmps10
  go_wp2_with (go_at_call 27; refine (peek_nil k _).mono ?_; rintro e w1 ⟨rfl, hb⟩)
  go_quiet (fail)
  go_wp2
  go_ret
  exact ⟨rfl, belowDrewN (belowNew hb _) _⟩
theorem swap_nil (k j : Int) (w : World) : Calls Try.prog 12 #[.pointer none, .int .i64 k, .int .i64 j] w fun e w' => e = .returned (.bool false) ∧ Below w.heap.size w w' := by
  go_enter Try.func12, Try.ntmps12
  go_wp2_with (go_at_call 27; (with_reducible refine (peek_nil k w).mono ?_); rintro e w1 ⟨rfl, hb⟩)
  go_wp2_with (go_at_call 27; (with_reducible refine (peek_nil j _).mono ?_); rintro e w2 ⟨rfl, hb2⟩)
  go_ret
  exact ⟨rfl, belowNew (belowThen (belowNew hb _) hb2) _⟩
theorem len_nil (w : World) : Calls Try.prog 14 #[.pointer none] w fun e w' => e = .returned (.int .i64 0) ∧ w = w' := by
  go_enter Try.func14, Try.ntmps14
  go_wp2_with (first | (go_at_call 29; refine (list_nil _).mono ?_; rintro e w' ⟨rfl, rfl⟩) | (go_at_call 35; refine (rlen_nil _).mono ?_; rintro e w' ⟨rfl, rfl⟩))
  go_ret
  exact ⟨rfl, rfl⟩
theorem clear_nil (w : World) : Calls Try.prog 16 #[.pointer none] w fun e w' => e = .returned (.int .i64 0) ∧ w = w' := by
  go_enter Try.func16, Try.ntmps16
  go_wp2_with (first | (go_at_call 29; refine (list_nil _).mono ?_; rintro e w' ⟨rfl, rfl⟩) | (go_at_call 36; refine (rclear_nil _).mono ?_; rintro e w' ⟨rfl, rfl⟩))
  go_ret
  exact ⟨rfl, rfl⟩
theorem send_nil (A : Option Addr) (n c : Nat) (w : World) : Calls Try.prog 9 #[.pointer none, .slice A n c] w fun e w' => e = .returned (.int .i64 0) ∧ w = w' := by
  go_enter Try.func9, Try.ntmps9
  go_wp2_with (go_at_call 29; refine (list_nil _).mono ?_; rintro e w' ⟨rfl, rfl⟩)
  go_ret
  exact ⟨rfl, rfl⟩
theorem cut_nil (x y : Int) (on : Bool) (w : World) : Calls Try.prog 15 #[.pointer none, .int .i64 x, .int .i64 y, .bool on] w fun e w' => e = .returned (.tuple #[]) ∧ w = w' := by
  go_enter Try.func15, Try.ntmps15
  go_wp2
  refine bodyPost_ret (results_none rfl _ _ _) rfl ?_
  exact ⟨rfl, rfl⟩
theorem walk (k : Int) (w : World) (g0 : (Lit.int .i64 k).wf = true) : Calls Try.prog 6 #[.int .i64 k] w fun e w' => e = .returned (.bool true) ∧ Below w.heap.size w w' := by
  go_enter Try.func6, Try.ntmps6
  go_wp2_with (first
    | (go_at_call 13; refine (take_nil k _).mono ?_; rintro e w1 ⟨rfl, hb1⟩)
    | (go_at_call 27; refine (peek_nil k _).mono ?_; rintro e w2 ⟨rfl, hb2⟩)
    | (go_at_call 15; refine (cut_nil 1 2 true _).mono ?_; rintro e w' ⟨rfl, rfl⟩)
    | (go_at_call 7; refine (alive_any _).mono ?_; rintro e w3 ⟨rfl, hb3⟩)
    | (go_at_call 9; refine (send_nil _ 1 1 _).mono ?_; rintro e w' ⟨rfl, rfl⟩)
    | (go_at_call 14; refine (len_nil _).mono ?_; rintro e w' ⟨rfl, rfl⟩)
    | (go_at_call 16; refine (clear_nil _).mono ?_; rintro e w' ⟨rfl, rfl⟩)
    | (go_at_call 11; refine (drop_nil k _).mono ?_; rintro e w4 ⟨rfl, hb4⟩)
    | (go_at_call 10; refine (double_nil k _).mono ?_; rintro e w5 ⟨rfl, hb5⟩)
    | (go_at_call 12; refine (swap_nil k 0 _).mono ?_; rintro e w6 ⟨rfl, hb6⟩))
  go_ret
  exact ⟨rfl, belowThen (belowThen (belowThen (belowNew (belowThen (belowNew (belowThen (belowNew hb1 _) hb2) _) hb3) _) hb4) hb5) hb6⟩
end Go.Proofs.Ytanhdcffbdhkcaa.netNone
