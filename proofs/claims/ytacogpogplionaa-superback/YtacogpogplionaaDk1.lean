/- The disk's calls that read alone: On, may, admits, there, Epoch, Word, Last, Sectors, and New. No condition. -/
import Derived.Test.YtacogpogplionaaDkDef
import Derived.StillTailTactics
namespace Go.Proofs.Ytacogpogplionaa.DK
set_option maxRecDepth 100000
open Go.RowKit Go.Proofs.Ytacogpogplionaa.MI
set_option linter.unusedVariables false
set_option linter.unusedSimpArgs false

section
variable {w w' : World} {B g N : Nat} {p : Pl} {D : Dk}
theorem on_any (h : DiskAt w B g p N D) : Calls Try.prog 44 #[.pointer (some ⟨g, 0, none⟩)] w fun e w' => e = .returned (.bool D.on) ∧ w' = w := by
  have c1 : w.cell? ⟨g, 1, none⟩ = some (.bool D.on) := h.blk.cell 1
  go_enter Try.func44, Try.ntmps44
  go_wp2
  go_ret
  exact ⟨rfl, rfl⟩
theorem may_any (h : DiskAt w B g p N D) (n : Int) : Calls Try.prog 38 #[.pointer (some ⟨g, 0, none⟩), .int .i64 n] w fun e w' => e = .returned (.int .i64 (mayK D n)) ∧ w' = w := by
  have ko := on_any h
  unfold mayK inNode
  obtain ⟨o, ho⟩ : ∃ o, D.on = o := ⟨_, rfl⟩
  rw [ho] at ko ⊢
  clear ho h
  cases o
  · go_enter Try.func38, Try.ntmps38
    go_wp2_with (go_at_call 44; refine ko.mono ?_; rintro e w1 ⟨rfl, rfl⟩)
    go_ret
    exact ⟨rfl, rfl⟩
  · by_cases h1 : 0 ≤ n
    · by_cases h2 : n ≤ 16
      · have b1 : decide (n < 0) = false := by simpa using h1
        have b2 : decide (16 < n) = false := by simpa using h2
        go_enter Try.func38, Try.ntmps38
        go_wp2_with (go_at_call 44; refine ko.mono ?_; rintro e w1 ⟨rfl, rfl⟩)
        go_ret
        exact ⟨by simp [h1, h2], rfl⟩
      · have b1 : decide (n < 0) = false := by simpa using h1
        have b2 : decide (16 < n) = true := by simp; omega
        go_enter Try.func38, Try.ntmps38
        go_wp2_with (go_at_call 44; refine ko.mono ?_; rintro e w1 ⟨rfl, rfl⟩)
        go_ret
        exact ⟨by simp [h1, h2], rfl⟩
    · have b1 : decide (n < 0) = true := by simp; omega
      go_enter Try.func38, Try.ntmps38
      go_wp2_with (go_at_call 44; refine ko.mono ?_; rintro e w1 ⟨rfl, rfl⟩)
      go_ret
      exact ⟨by simp [h1], rfl⟩
theorem admits_any (h : DiskAt w B g p N D) (n e : Int) (hn : inNode n = true) : Calls Try.prog 56 #[.pointer (some ⟨g, 0, none⟩), .int .i64 n, .int .u64 e] w fun e' w' => e' = .returned (.int .i64 (admK D n e)) ∧ w' = w := by
  have c1 : w.cell? ⟨g, 6 + n.toNat, none⟩ = some (uv (D.table n)) := (h.blk.cell _).trans (cell_tab _ _ _ _ _ hn)
  have h1 : 0 ≤ n := by unfold inNode at hn; simp at hn; omega
  have h2 : n < 17 := by unfold inNode at hn; simp at hn; omega
  have h3 : n.toNat < 17 := by omega
  unfold admK
  obtain ⟨t, ht⟩ : ∃ t, D.table n = t := ⟨_, rfl⟩
  rw [ht] at c1 ⊢
  clear ht h hn
  by_cases he : e = 0
  · subst he
    go_enter Try.func56, Try.ntmps56
    go_wp2
    go_ret
    exact ⟨rfl, rfl⟩
  · have b1 : (e == 0) = false := by simpa using he
    by_cases ht : t = e
    · have b2 : (t != e) = false := by simp [ht]
      have hres : (if (e == 0 || !(t == e)) = true then 34 else 0 : Int) = 0 := by rw [b1, ht]; simp
      rw [hres]
      clear hres ht he
      go_enter Try.func56, Try.ntmps56
      go_wp2
      go_ret
      exact ⟨rfl, rfl⟩
    · have b2 : (t != e) = true := by simp [ht]
      have hres : (if (e == 0 || !(t == e)) = true then 34 else 0 : Int) = 34 := by simp [b1, ht]
      rw [hres]
      clear hres ht he
      go_enter Try.func56, Try.ntmps56
      go_wp2
      go_ret
      exact ⟨rfl, rfl⟩
theorem there_any (h : DiskAt w B g p N D) (a n : Int) : Calls Try.prog 45 #[.pointer (some ⟨g, 0, none⟩), .int .i64 a, .int .i64 n] w fun e' w' => e' = .returned (.bool (thereK D a n)) ∧ w' = w := by
  have c0 : w.cell? ⟨g, 0, none⟩ = some (.int .i64 (D.room : Int)) := h.blk.cell 0
  have hr := h.sane.room
  unfold thereK
  obtain ⟨r, ht⟩ : ∃ r, D.room = r := ⟨_, rfl⟩
  rw [ht] at c0 hr ⊢
  clear ht h
  by_cases h1 : 0 ≤ a
  · by_cases h2 : a ≤ (r : Int)
    · have b1 : decide (0 ≤ a) = true := by simpa using h1
      have b2 : decide (a ≤ (r : Int)) = true := by simpa using h2
      have e1 : IntKind.i64.wrap ((r : Int) - a) = (r : Int) - a := IntWalk.i64_in _ (by omega)
      go_enter Try.func45, Try.ntmps45
      go_wp2
      go_ret
      exact ⟨by simp [h1, h2], rfl⟩
    · have b1 : decide (0 ≤ a) = true := by simpa using h1
      have b2 : decide (a ≤ (r : Int)) = false := by simpa using h2
      go_enter Try.func45, Try.ntmps45
      go_wp2
      go_ret
      exact ⟨by simp [h1, h2], rfl⟩
  · have b1 : decide (0 ≤ a) = false := by simpa using h1
    go_enter Try.func45, Try.ntmps45
    go_wp2
    go_ret
    exact ⟨by simp [h1], rfl⟩
theorem last_any (h : DiskAt w B g p N D) : Calls Try.prog 26 #[.pointer (some ⟨g, 0, none⟩)] w fun e w' => e = .returned (.int .u64 D.last) ∧ w' = w := by
  have c1 : w.cell? ⟨g, 40, none⟩ = some (uv D.last) := h.blk.cell 40
  go_enter Try.func26, Try.ntmps26
  go_wp2
  go_ret
  exact ⟨rfl, rfl⟩
theorem sectors_any (h : DiskAt w B g p N D) : Calls Try.prog 23 #[.pointer (some ⟨g, 0, none⟩)] w fun e w' => e = .returned (.int .i64 (D.room : Int)) ∧ w' = w := by
  have c1 : w.cell? ⟨g, 0, none⟩ = some (.int .i64 (D.room : Int)) := h.blk.cell 0
  go_enter Try.func23, Try.ntmps23
  go_wp2
  go_ret
  exact ⟨rfl, rfl⟩
end
def p0 (b : Nat) : Pl := ⟨b, b + 1, none, 0, none, 0, 0⟩
theorem new_at (w0 w : World) (hb : Below w0.heap.size w0 w) (n : Nat) (hn : n ≤ 20000) :
    DiskAt (((w.alloc (.map #[] 0)).alloc (.map #[] 0)).alloc (.cells (dcells (newK n) w.heap.size (w.heap.size + 1) (.slice none 0 0) (.slice none 0 0)) TD)) w0.heap.size (w.heap.size + 1 + 1) ⟨w.heap.size, w.heap.size + 1, none, 0, none, 0, 0⟩ 0 (newK n) := by
  have hs := hb.size
  have e1 : (w.alloc (.map #[] 0)).heap.size = w.heap.size + 1 := by simp
  have e2 : ((w.alloc (.map #[] 0)).alloc (.map #[] 0)).heap.size = w.heap.size + 1 + 1 := by simp
  refine ⟨?_, ⟨0, Nat.le_refl _, ((MapAt.made w).alloc _).alloc _⟩, ⟨0, Nat.le_refl _, ?_⟩, World.ownsRow_nil _ _ _ _, Lies.nil, ⟨Nat.le_refl _, Nat.zero_le _, fun _ => ⟨rfl, rfl⟩, fun ad e => by cases e⟩, fun k hk => ?_, fun k hk => ?_, by omega, hs, by show w0.heap.size ≤ w.heap.size + 1; omega, by show w.heap.size ≠ w.heap.size + 1; omega, Nat.le_refl _, sane_new n hn⟩
  · rw [← e2]; exact Blk.new _ _ _
  · show MapAt wcode Try.prog TI _ (w.heap.size + 1) 0 _
    rw [← e1]
    exact (MapAt.made (w.alloc (.map #[] 0))).alloc _
  · obtain ⟨ad, e, _⟩ := hk; cases e
  · obtain ⟨ad, e, _⟩ := hk; cases e
theorem disk_new (w0 w : World) (hb : Below w0.heap.size w0 w) (n : Nat) (hn : n ≤ 20000) :
    Calls Try.prog 14 #[.int .i64 (n : Int)] w fun e w' => (1 ≤ n → ∃ g p, e = .returned (.pointer (some ⟨g, 0, none⟩)) ∧ DiskAt w' w0.heap.size g p 0 (newK n) ∧ Below w0.heap.size w0 w') ∧ (n = 0 → e = .returned (.pointer none) ∧ w' = w) := by
  by_cases h1 : 1 ≤ n
  · have b1 : decide ((n : Int) < 1) = false := by simp; omega
    have b2 : decide (20000 < (n : Int)) = false := by simp; omega
    have hmm := @run_makeMap Try.prog
    go_enter Try.func14, Try.ntmps14
    go_wp2
    go_ret
    refine ⟨fun _ => ⟨w.heap.size + 1 + 1, ⟨w.heap.size, w.heap.size + 1, none, 0, none, 0, 0⟩, rfl, new_at w0 w hb n hn, ?_⟩, fun h => absurd h (by omega)⟩
    exact ((hb.alloc hb.size _).alloc (by have := hb.size; simp; omega) _).alloc (by have := hb.size; simp; omega) _
  · obtain rfl : n = 0 := by omega
    go_enter Try.func14, Try.ntmps14
    go_wp2
    go_ret
    exact ⟨fun h => absurd h (by omega), fun _ => ⟨rfl, rfl⟩⟩
end Go.Proofs.Ytacogpogplionaa.DK
