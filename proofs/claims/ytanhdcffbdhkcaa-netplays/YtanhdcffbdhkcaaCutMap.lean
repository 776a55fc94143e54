/- A set of pairs of whole numbers (map[[2]int]struct{}) that a call made: what is in it, after a delete, after a store. No condition. -/
import Derived.Test.YtanhdcffbdhkcaaBase
import Derived.Test.YtanhdcffbdhkcaaChecked
import Derived.Maps.Own
import Derived.Maps.OwnSet
import Derived.WideKeyPair
import Derived.DeepKeys4
namespace Go.Proofs.Ytanhdcffbdhkcaa.CM
set_option maxRecDepth 100000
open Go.RowKit Go.Maps Go.WideMaps
set_option linter.unusedVariables false

theorem laidOut : laidOutB Try.prog = true := by kernel_rfl
theorem arrKey : ArrKey Try.prog 63 3 2 := ⟨Try.underlying63, by kernel_rfl, by kernel_rfl, by kernel_rfl⟩
theorem law : Keyed Try.prog 63 := Keyed.of_law (deep_law_laid laidOut (m := 2) (by omega) (of_decide_eq_true (by kernel_rfl)) (by kernel_rfl) (by kernel_rfl))
theorem szT : ∃ m, Try.prog.types.size = m + 1 := by
  have h : decide (0 < Try.prog.types.size) = true := by kernel_rfl
  have := of_decide_eq_true h
  exact ⟨Try.prog.types.size - 1, by omega⟩
abbrev pairV (x y : Int) : Value := .agg #[.int .i64 x, .int .i64 y]
def pairK (x y : Int) : Lit := .string (keyBytes [.int .i64 x, .int .i64 y])
theorem pair_key {x y : Int} (wx : (Lit.int .i64 x).wf = true) (wy : (Lit.int .i64 y).wf = true) : keyOf Try.prog 63 (pairV x y) = some (pairK x y) := keyOf_pair arrKey Try.underlying3 szT wx wy
theorem pair_inj {x y x' y' : Int} (wx : (Lit.int .i64 x).wf = true) (wy : (Lit.int .i64 y).wf = true) (wx' : (Lit.int .i64 x').wf = true) (wy' : (Lit.int .i64 y').wf = true) (h : pairK x y = pairK x' y') : x = x' ∧ y = y' := by
  have h1 := pair_key wx wy
  rw [h] at h1
  have h2 := law.inj h1 (pair_key wx' wy')
  injection h2 with h2
  simp at h2
  exact h2
def Wf (x : Int) : Prop := (Lit.int .i64 x).wf = true
/-- Block b is a set of at most n pairs: C says which. -/
def CutsAt (w : World) (b n : Nat) (C : Int → Int → Bool) : Prop := ∃ D : DataW Unit, w.ownsMap Try.prog 63 unitElem b n D ∧ ∀ x y, Wf x → Wf y → Maps.has D (pairK x y) = C x y
def withOut (C : Int → Int → Bool) (a b : Int) : Int → Int → Bool := fun x y => C x y && !(x == a && y == b)
def withIn (C : Int → Int → Bool) (a b : Int) : Int → Int → Bool := fun x y => C x y || (x == a && y == b)
theorem view_del {D : DataW Unit} {C : Int → Int → Bool} (h : ∀ x y, Wf x → Wf y → Maps.has D (pairK x y) = C x y) {a b : Int} (wa : Wf a) (wb : Wf b) : ∀ x y, Wf x → Wf y → Maps.has (D.del (pairK a b)) (pairK x y) = withOut C a b x y := by
  intro x y wx wy
  unfold withOut
  by_cases he : x = a ∧ y = b
  · obtain ⟨rfl, rfl⟩ := he
    rw [Maps.has_del_same]; simp
  · rw [Maps.has_del_other (fun e => he (pair_inj wx wy wa wb e)), h x y wx wy]
    have : (x == a && y == b) = false := by
      rw [Bool.eq_false_iff]; intro h2; simp at h2; exact he h2
    rw [this]; simp
theorem view_put {D : DataW Unit} {C : Int → Int → Bool} (hD : Maps.IsMap D) (h : ∀ x y, Wf x → Wf y → Maps.has D (pairK x y) = C x y) {a b : Int} (wa : Wf a) (wb : Wf b) (d : DataW Unit) : ∀ x y, Wf x → Wf y → Maps.has (D.put (pairK a b) d) (pairK x y) = withIn C a b x y := by
  intro x y wx wy
  unfold withIn
  by_cases he : x = a ∧ y = b
  · obtain ⟨rfl, rfl⟩ := he
    rw [Maps.has_put_same hD (law.key (pair_key wx wy))]; simp
  · rw [Maps.has_put_other (fun e => he (pair_inj wx wy wa wb e)), h x y wx wy]
    have : (x == a && y == b) = false := by
      rw [Bool.eq_false_iff]; intro h2; simp at h2; exact he h2
    rw [this]; simp
theorem CutsAt.made (w : World) : CutsAt (w.alloc (.map #[] 0)) w.heap.size 0 (fun _ _ => false) := ⟨.map [], World.ownsMap_made _ _ _ _, fun _ _ _ _ => rfl⟩
theorem zeroU (w : World) : (zeroValue 61).run Try.prog w = .ok (.agg #[]) w := by kernel_rfl
theorem CutsAt.lt {w : World} {b n : Nat} {C : Int → Int → Bool} (h : CutsAt w b n C) : b < w.heap.size := by obtain ⟨D, h, _⟩ := h; exact h.lt
theorem CutsAt.keeps {S : Nat → Prop} {w w' : World} {b n : Nat} {C : Int → Int → Bool} (h : CutsAt w b n C) (hk : Keeps S w w') (hn : ¬ S b) : CutsAt w' b n C := by
  obtain ⟨D, ⟨es, clock, hb, F, hs, hD⟩, hv⟩ := h
  have hlt : b < w.heap.size := (Array.getElem?_eq_some_iff.1 hb).1
  exact ⟨D, ⟨es, clock, (hk.block b hlt hn).trans hb, F, hs, hD⟩, hv⟩
theorem CutsAt.blk {w : World} {b n g : Nat} {C : Int → Int → Bool} {t : TypeId} {cs : Array Value} (h : CutsAt w b n C) (hg : Blk w g t cs) : b ≠ g := by
  rintro rfl
  obtain ⟨D, ⟨es, clock, hb, _⟩, _⟩ := h
  unfold Blk at hg
  rw [hb] at hg
  cases hg
end Go.Proofs.Ytanhdcffbdhkcaa.CM
