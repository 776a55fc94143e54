/- The box's shape in memory. No condition. -/
import Derived.Test.YthnlfgogibjbnaaLone
namespace Go.Proofs.Ythnlfgogibjbnaa
open Go.RowKit Go.Conc
set_option linter.unusedVariables false

theorem keeps_setChan {S : Nat → Prop} {a w : World} (h : Keeps S a w) {c : Nat} (hc : S c) (cap : Nat) (buf : Array Value) (cl : Bool) (s r : Nat) (tm : Bool) : Keeps S a (w.setChan c cap buf cl s r tm) :=
  ⟨h.os, h.tape, h.output, by simpa [World.setChan] using h.size, fun k hk hn => by
    have : k ≠ c := fun e => hn (e ▸ hc)
    simp only [World.setChan]
    rw [Array.getElem?_setIfInBounds_ne (by omega)]
    exact h.block k hk hn⟩

/-- Block g is a box (type T) of room 'most' that holds xs; block c is its channel. -/
structure BoxAt {α : Type} (val : α → Value) (T : TypeId) (w : World) (B g c most : Nat) (closed : Bool) (xs : List α) : Prop where
  blk : Blk w g T #[.int .i32 0, .int .u32 0, .chan (some c), .bool closed]
  ch : ∃ s r, w.heap[c]? = some (.chan most (xs.map val).toArray closed s r false)
  geg : B ≤ g
  gec : B ≤ c
  le : xs.length ≤ most

def boxF (g c : Nat) : Nat → Prop := fun k => k = g ∨ k = c

section
variable {α : Type} {val : α → Value} {T : TypeId} {w w' : World} {B g c most : Nat} {closed : Bool} {xs : List α}
theorem BoxAt.ne (h : BoxAt val T w B g c most closed xs) : g ≠ c := by
  rintro rfl
  obtain ⟨s, r, hc⟩ := h.ch
  have hb := h.blk
  unfold Blk at hb
  rw [hb] at hc
  cases hc
theorem BoxAt.lt (h : BoxAt val T w B g c most closed xs) : ∀ k, boxF g c k → k < w.heap.size := by
  rintro k (rfl | rfl)
  · exact h.blk.lt
  · obtain ⟨s, r, hc⟩ := h.ch
    exact (Array.getElem?_eq_some_iff.1 hc).1
theorem BoxAt.geF (h : BoxAt val T w B g c most closed xs) : ∀ k, boxF g c k → B ≤ k := by
  rintro k (rfl | rfl)
  · exact h.geg
  · exact h.gec
theorem BoxAt.keeps {S : Nat → Prop} (h : BoxAt val T w B g c most closed xs) (hk : Keeps S w w') (hn : Apart (boxF g c) S) : BoxAt val T w' B g c most closed xs := by
  obtain ⟨s, r, hc⟩ := h.ch
  exact ⟨h.blk.keeps hk (fun hs => hn g (.inl rfl) hs), ⟨s, r, (hk.block c (Array.getElem?_eq_some_iff.1 hc).1 (fun hs => hn c (.inr rfl) hs)).trans hc⟩, h.geg, h.gec, h.le⟩
theorem BoxAt.below {Bk : Nat} (h : BoxAt val T w B g c most closed xs) (hb : Below Bk w w') (hn : ∀ k, boxF g c k → k < Bk) : BoxAt val T w' B g c most closed xs :=
  h.keeps (S := fun k => Bk ≤ k) ⟨hb.os, hb.tape, hb.output, hb.size, fun k _ hk => hb.block k (by omega)⟩ (fun k h1 h2 => by have := hn k h1; omega)
theorem BoxAt.drewN (h : BoxAt val T w B g c most closed xs) (n : Nat) : BoxAt val T (w.drewN n) B g c most closed xs := ⟨h.blk, h.ch, h.geg, h.gec, h.le⟩
theorem BoxAt.cells (h : BoxAt val T w B g c most closed xs) : w.cell? ⟨g, 0, none⟩ = some (.int .i32 0) ∧ w.cell? ⟨g, 2, none⟩ = some (.chan (some c)) ∧ w.cell? ⟨g, 3, none⟩ = some (.bool closed) := by
  refine ⟨?_, ?_, ?_⟩ <;> (rw [h.blk.cell]; rfl)
theorem BoxAt.after {w0 : World} (h : BoxAt val T w B g c most closed xs) (hb : Below B w0 w) (hk : Keeps (boxF g c) w w') : Below B w0 w' :=
  hk.after hb h.geF (by have := h.geg; have := h.blk.lt; omega)
/-- The channel's block is laid anew, the lock is taken and given back, the mark is set. -/
theorem BoxAt.turn {ys : List α} {cl : Bool} {s r : Nat} (h : BoxAt val T w B g c most closed xs) (hk : Keeps (boxF g c) w w') (hb : Blk w' g T #[.int .i32 0, .int .u32 0, .chan (some c), .bool cl])
    (hc : w'.heap[c]? = some (.chan most (ys.map val).toArray cl s r false)) (hl : ys.length ≤ most) : BoxAt val T w' B g c most cl ys ∧ Keeps (boxF g c) w w' :=
  ⟨⟨hb, ⟨s, r, hc⟩, h.geg, h.gec, hl⟩, hk⟩
end
end Go.Proofs.Ythnlfgogibjbnaa
