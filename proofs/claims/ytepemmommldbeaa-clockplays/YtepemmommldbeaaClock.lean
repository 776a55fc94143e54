/- The clock of chapter 16: what each call does. No condition. -/
import Derived.Test.YtepemmommldbeaaMore
import Derived.Test.YtepemmommldbeaaRingI
import Derived.Deep.DeepCutAuto
import Derived.Deep.RegionHeld3
import Derived.OpenShut
namespace Go.Proofs.Ytepemmommldbeaa.CL
open Go.RowKit
set_option linter.unusedVariables false

def clampI (x : Int) : Int := min (max x 0) 8
theorem clamp_b (x : Int) : 0 ≤ clampI x ∧ clampI x ≤ 8 := by unfold clampI; omega
def nextW (xs : List Int) (c : Int) : List Int := (if xs.length = 8 then xs.drop 1 else xs) ++ [c]
def badW (xs : List Int) : Bool := decide (xs.length = 8) && (decide (xs.sum < 7) || decide (9 < xs.sum))
def Small (xs : List Int) : Prop := ∀ x ∈ xs, 0 ≤ x ∧ x ≤ 8
theorem Small.next {xs : List Int} (h : Small xs) (c : Int) : Small (nextW xs (clampI c)) := by
  intro x hx
  unfold nextW at hx
  rcases List.mem_append.1 hx with h1 | h1
  · split at h1
    · exact h x (List.mem_of_mem_drop h1)
    · exact h x h1
  · obtain rfl : x = clampI c := by simpa using h1
    exact clamp_b c
theorem Small.sum {xs : List Int} (h : Small xs) : 0 ≤ xs.sum ∧ xs.sum ≤ 8 * (xs.length : Int) := by
  induction xs with
  | nil => simp
  | cons x xs ih =>
    have h1 := ih (fun y hy => h y (List.mem_cons_of_mem _ hy))
    have h2 := h x (List.mem_cons_self ..)
    simp only [List.sum_cons, List.length_cons]
    omega
theorem Small.take {xs : List Int} (h : Small xs) (k : Nat) : Small (xs.take k) := fun x hx => h x (List.mem_of_mem_take hx)
theorem sum_snoc_ (xs : List Int) (k : Nat) (x : Int) (h : xs[k]? = some x) : (xs.take (k + 1)).sum = (xs.take k).sum + x := by
  rw [List.take_add_one, h]
  simp

abbrev TC : TypeId := 31
def cells (now real : Int) (p : Option Addr) (b : Bool) : Array Value := #[.int .i64 now, .int .i64 real, .pointer p, .bool b]
/-- Block g is a clock. F: its blocks. -/
def ClockIs (w : World) (B g : Nat) (now real : Int) (xs : List Int) (b : Bool) (F : Nat → Prop) : Prop :=
  B ≤ g ∧ Small xs ∧ ((xs = [] ∧ Blk w g TC (cells now real none b) ∧ F = only g) ∨
    ∃ q a c, Blk w g TC (cells now real (some ⟨q, 0, none⟩) b) ∧ RingAt RI.val 53 3 w B q 8 a c xs ∧ F = fun k => k = g ∨ ringF q a k)

theorem ring_ne {w : World} {B g q : Nat} {a : Option Addr} {c : Nat} {xs : List Int} {cs : Array Value} (hb : Blk w g TC cs) (hR : RingAt RI.val 53 3 w B q 8 a c xs) : ¬ ringF q a g := by
  rintro (h | h)
  · exact hb.ne_ hR.blk (by decide) h
  · exact own_ne hR.own hb (by decide) ((own_blk _ _ _).trans h)
theorem ClockIs.ge {w : World} {B g : Nat} {now real : Int} {xs : List Int} {b : Bool} {F : Nat → Prop} (h : ClockIs w B g now real xs b F) : ∀ k, F k → B ≤ k := by
  obtain ⟨hB, _, ⟨_, _, rfl⟩ | ⟨q, a, c, _, hR, rfl⟩⟩ := h
  · rintro k rfl; exact hB
  · rintro k (rfl | hk)
    · exact hB
    · exact hR.geF k hk
theorem ClockIs.lt {w : World} {B g : Nat} {now real : Int} {xs : List Int} {b : Bool} {F : Nat → Prop} (h : ClockIs w B g now real xs b F) : ∀ k, F k → k < w.heap.size := by
  obtain ⟨hB, _, ⟨_, hb, rfl⟩ | ⟨q, a, c, hb, hR, rfl⟩⟩ := h
  · rintro k rfl; exact hb.lt
  · rintro k (rfl | hk)
    · exact hb.lt
    · exact hR.lt k hk
theorem ClockIs.keeps {w w' : World} {B g : Nat} {now real : Int} {xs : List Int} {b : Bool} {F S : Nat → Prop} (h : ClockIs w B g now real xs b F) (hk : Keeps S w w') (hn : Apart F S) : ClockIs w' B g now real xs b F := by
  obtain ⟨hB, hx, ⟨h0, hb, rfl⟩ | ⟨q, a, c, hb, hR, rfl⟩⟩ := h
  · exact ⟨hB, hx, .inl ⟨h0, hb.keeps hk (fun hs => hn g rfl hs), rfl⟩⟩
  · exact ⟨hB, hx, .inr ⟨q, a, c, hb.keeps hk (fun hs => hn g (.inl rfl) hs), hR.keeps hk (fun k h1 h2 => hn k (.inr h1) h2), rfl⟩⟩
theorem ClockIs.blk {w : World} {B g : Nat} {now real : Int} {xs : List Int} {b : Bool} {F : Nat → Prop} (h : ClockIs w B g now real xs b F) : ∃ p, Blk w g TC (cells now real p b) := by
  obtain ⟨hB, _, ⟨_, hb, rfl⟩ | ⟨q, a, c, hb, hR, rfl⟩⟩ := h
  · exact ⟨_, hb⟩
  · exact ⟨_, hb⟩

/-- What a step leaves. -/
def StepOut (w : World) (B g : Nat) (now real : Int) (xs : List Int) (b : Bool) (F : Nat → Prop) (w' : World) : Prop :=
  ∃ F', ClockIs w' B g now real xs b F' ∧ Keeps F w w' ∧ Grows w F F'
def NewOut (w : World) (w' : World) : Prop := ClockIs w' w.heap.size w.heap.size 0 0 [] false (only w.heap.size) ∧ Keeps (fun _ => False) w w'

theorem new_any (w : World) : Calls Try.prog 10 #[] w fun e w' => e = .returned (.pointer (some ⟨w.heap.size, 0, none⟩)) ∧ NewOut w w' := by
  go_enter Try.func10, Try.ntmps10
  go_wp2
  go_ret
  exact ⟨rfl, ⟨Nat.le_refl _, (fun x hx => absurd hx (by simp)), .inl ⟨rfl, Blk.new _ _ _, rfl⟩⟩, (Keeps.refl _ _).alloc _⟩
theorem now_nil (w : World) : Calls Try.prog 14 #[.pointer none] w fun e w' => e = .returned (.int .i64 0) ∧ w = w' := by
  go_enter Try.func14, Try.ntmps14
  go_wp2
  go_ret
  exact ⟨rfl, rfl⟩
theorem real_nil (w : World) : Calls Try.prog 15 #[.pointer none] w fun e w' => e = .returned (.int .i64 0) ∧ w = w' := by
  go_enter Try.func15, Try.ntmps15
  go_wp2
  go_ret
  exact ⟨rfl, rfl⟩
theorem kept_nil (w : World) : Calls Try.prog 11 #[.pointer none] w fun e w' => e = .returned (.bool false) ∧ w = w' := by
  go_enter Try.func11, Try.ntmps11
  go_wp2
  go_ret
  exact ⟨rfl, rfl⟩
theorem step_nil (n : Int) (w : World) : Calls Try.prog 12 #[.pointer none, .int .i64 n] w fun e w' => e = .returned (.int .i64 0) ∧ w = w' := by
  go_enter Try.func12, Try.ntmps12
  go_wp2
  go_ret
  exact ⟨rfl, rfl⟩
section
variable {w : World} {B g : Nat} {now real : Int} {xs : List Int} {b : Bool} {F : Nat → Prop}
theorem now_any (h : ClockIs w B g now real xs b F) : Calls Try.prog 14 #[.pointer (some ⟨g, 0, none⟩)] w fun e w' => e = .returned (.int .i64 now) ∧ w = w' := by
  obtain ⟨p, hb⟩ := h.blk
  have c0 : w.cell? ⟨g, 0, none⟩ = some (.int .i64 now) := hb.cell 0
  go_enter Try.func14, Try.ntmps14
  go_wp2
  go_ret
  exact ⟨rfl, rfl⟩
theorem real_any (h : ClockIs w B g now real xs b F) : Calls Try.prog 15 #[.pointer (some ⟨g, 0, none⟩)] w fun e w' => e = .returned (.int .i64 real) ∧ w = w' := by
  obtain ⟨p, hb⟩ := h.blk
  have c0 : w.cell? ⟨g, 1, none⟩ = some (.int .i64 real) := hb.cell 1
  go_enter Try.func15, Try.ntmps15
  go_wp2
  go_ret
  exact ⟨rfl, rfl⟩
theorem kept_any (h : ClockIs w B g now real xs b F) : Calls Try.prog 11 #[.pointer (some ⟨g, 0, none⟩)] w fun e w' => e = .returned (.bool (!b)) ∧ w = w' := by
  obtain ⟨p, hb⟩ := h.blk
  have c0 : w.cell? ⟨g, 3, none⟩ = some (.bool b) := hb.cell 3
  go_enter Try.func11, Try.ntmps11
  go_wp2
  go_ret
  exact ⟨rfl, rfl⟩
end
end Go.Proofs.Ytepemmommldbeaa.CL
