/- More words for memory: a call that turns cells of one block. No condition. -/
import Derived.Test.YthnlfgogibjbnaaGreatBase
namespace Go.Proofs.YthnlfgogibjbnaaGreat
set_option maxRecDepth 100000
open Go.RowKit
set_option linter.unusedVariables false

/-- One block alone. -/
def only (g : Nat) : Nat → Prop := fun k => k = g
theorem Keeps.cell_ {a w : World} {g : Nat} (h : Keeps (only g) a w) (i : Nat) (v : Value) : Keeps (only g) a (w.setCell ⟨g, i, none⟩ v) := Keeps.setCell (S := only g) (p := ⟨g, i, none⟩) h (fun _ => rfl) v
theorem keep1 (w : World) (g i : Nat) (v : Value) : Keeps (only g) w (w.setCell ⟨g, i, none⟩ v) := (Keeps.refl _ w).cell_ i v
theorem keep2 (w : World) (g i j : Nat) (v u : Value) : Keeps (only g) w ((w.setCell ⟨g, i, none⟩ v).setCell ⟨g, j, none⟩ u) := (keep1 w g i v).cell_ j u
theorem none_apart (F : Nat → Prop) : Apart F (fun _ => False) := fun _ _ h => h
/-- A cell of a row that a call made. -/
theorem ownCell {w : World} {B : Nat} {e : TypeId} {a : Option Addr} {n c : Nat} {xs : List Value} (h : w.ownsRow B e 1 (.slice a n c) n xs) {k : Nat} (hk : k < n) :
    ∃ b x, a = some ⟨b, 0, none⟩ ∧ xs[k]? = some x ∧ w.cell? ⟨b, k, none⟩ = some x ∧ B ≤ b := by
  obtain ⟨b, cap, hv, _, _⟩ := h.form (by omega)
  injection hv with hv1 hv2 hv3
  subst hv1
  have hl : xs.length = n := by have := h.1; omega
  have hx : xs[k]? = some xs[k] := List.getElem?_eq_getElem (by omega)
  refine ⟨b, xs[k], rfl, hx, ?_, (h.lt b rfl).1⟩
  rw [← h.cells (g := b) rfl k _ hx]; congr 1; unfold Addr.add; split <;> simp_all
end Go.Proofs.YthnlfgogibjbnaaGreat
