/- What a law is told of slices of texts and of truths that came in. No condition. -/
import Derived.Test.YthnlfgogibjbnaaGreatRow
import Derived.ProofKit
import Derived.OpenShut
import Derived.SliceStrings
import Derived.Deep.Slices
namespace Go.Proofs.YthnlfgogibjbnaaGreat
set_option maxRecDepth 100000
open Go.RowKit Go.WideShapes Go.ChangeShapes Go.Deep
set_option linter.unusedVariables false

def SliceIs {α : Type} (val : α → Value) (w : World) (a : Option Addr) (len cap : Nat) (xs : List α) : Prop :=
  Lies w 1 a len (xs.map val) ∧ len ≤ cap ∧ cap ≤ maxLen

section
variable {H : Type} {enc : TypeId × Value → H} {P : Program} {w : World}
theorem ints_in {t e : TypeId} {k : IntKind} {base : Nat} {v : Value} {d : DataW H} {p : List MemPlace} (ht : P.underlying t = some (.slice e)) (he : P.underlying e = some (.int k)) (hc : P.cellsOf e = 1)
    (hok : Value.okWide P w .any base t v) (h : DataW.Trod enc P w 0 (fun _ => true) true t v d p) :
    ∃ a len cap zs, v = .slice a len cap ∧ IsRow k w a len cap zs := by
  obtain ⟨a1, len1, cap1, rfl⟩ := okWide_slice ht hok
  obtain ⟨fuel, hf⟩ := h
  rcases open_ints ht he hc hf with ⟨hcs, _⟩ | ⟨x, l, c, zs, hcs, _, hl, hm, hz, _, hcell, hwz⟩
  · simp [Value.cells] at hcs
    obtain ⟨rfl, rfl, rfl⟩ := hcs
    exact ⟨_, _, _, [], rfl, .inl ⟨rfl, rfl, rfl, rfl⟩⟩
  · simp [Value.cells] at hcs
    obtain ⟨rfl, rfl, rfl⟩ := hcs
    exact ⟨_, _, _, zs, rfl, .inr ⟨_, rfl, hl, hm, by simpa using hz, hcell, hwz⟩⟩
theorem texts_in {t e : TypeId} {base : Nat} {v : Value} {d : DataW H} {p : List MemPlace} (ht : P.underlying t = some (.slice e)) (he : P.underlying e = some .string) (hc : P.cellsOf e = 1)
    (hok : Value.okWide P w .any base t v) (h : DataW.Trod enc P w 0 (fun _ => true) true t v d p) :
    ∃ a len cap ss, v = .slice a len cap ∧ SliceIs Value.string w a len cap ss := by
  obtain ⟨a0, l0, c0, rfl⟩ := okWide_slice ht hok
  obtain ⟨fuel, hf⟩ := h
  rcases open_strings ht he hc hf with ⟨hcs, _⟩ | ⟨a, len, cap, ss, hcs, _, hl, hm, hz, _, hcell, _⟩
  · simp [Value.cells] at hcs
    obtain ⟨rfl, rfl, rfl⟩ := hcs
    exact ⟨none, 0, 0, [], rfl, Lies.nil, Nat.le_refl _, Nat.zero_le _⟩
  · simp [Value.cells] at hcs
    obtain ⟨rfl, rfl, rfl⟩ := hcs
    simp at hz
    refine ⟨_, _, _, ss.take l0, rfl, ⟨by simp; omega, fun _ => ⟨a, rfl, fun j u hu => ?_⟩⟩, hl, hm⟩
    rw [List.getElem?_map, List.getElem?_take] at hu
    split at hu
    · rename_i hj
      have hjl : j < ss.length := by omega
      rw [List.getElem?_eq_getElem hjl] at hu
      injection hu with hu
      rw [hcell j hjl, ← hu]
      simp [List.getElem?_eq_getElem hjl]
    · simp at hu
theorem bools_in {t e : TypeId} {base : Nat} {v : Value} {d : DataW H} {p : List MemPlace} (ht : P.underlying t = some (.slice e)) (he : P.underlying e = some .bool) (hc : P.cellsOf e = 1)
    (hok : Value.okWide P w .any base t v) (h : DataW.Trod enc P w 0 (fun _ => true) true t v d p) :
    ∃ a len cap bs, v = .slice a len cap ∧ SliceIs Value.bool w a len cap bs := by
  obtain ⟨a0, l0, c0, rfl⟩ := okWide_slice ht hok
  obtain ⟨fuel, hf⟩ := h
  rcases open_slice ht hf with ⟨hcs, _⟩ | ⟨a, len, cap, m, n, D, Pl, hcs, _, hl, hm, hmm, _, hi⟩
  · simp [Value.cells] at hcs
    obtain ⟨rfl, rfl, rfl⟩ := hcs
    exact ⟨none, 0, 0, [], rfl, Lies.nil, Nat.le_refl _, Nat.zero_le _⟩
  · simp [Value.cells] at hcs
    obtain ⟨rfl, rfl, rfl⟩ := hcs
    have each : ∀ i, i < l0 → ∃ b, w.cell? (a.add i) = some (.bool b) := by
      intro i hil
      obtain ⟨cs', h1, h2⟩ := hi i (by rw [hmm]; simp; omega)
      rw [hc, Nat.mul_one] at h1
      obtain ⟨_, hcl, hat⟩ := World.cells?_some h1
      obtain ⟨b, e0, _⟩ := DataW.trod_bool he h2
      refine ⟨b, ?_⟩
      have := hat 0 (by omega)
      rw [e0] at this
      simpa [Addr.add] using this
    have hall : ∃ bs : List Bool, bs.length = l0 ∧ ∀ i, i < l0 → w.cell? (a.add i) = some (.bool (bs.getD i false)) := by
      clear hi hmm
      revert each
      generalize l0 = L
      intro each
      induction L with
      | zero => exact ⟨[], rfl, fun i hi => by omega⟩
      | succ L ih =>
        obtain ⟨bs, hb, hc⟩ := ih (fun i hi => each i (by omega))
        obtain ⟨b, hb1⟩ := each L (by omega)
        refine ⟨bs ++ [b], by simp [hb], fun i hi => ?_⟩
        by_cases hil : i < L
        · rw [hc i hil]; simp [List.getElem?_append_left (by omega : i < bs.length)]
        · obtain rfl : i = L := by omega
          rw [hb1]; simp [← hb]
    obtain ⟨bs, hb, hc'⟩ := hall
    refine ⟨_, _, _, bs, rfl, ⟨by simp [hb], fun _ => ⟨a, rfl, fun j u hu => ?_⟩⟩, hl, hm⟩
    rw [List.getElem?_map] at hu
    have hjl : j < bs.length := by
      rcases Nat.lt_or_ge j bs.length with h | h
      · exact h
      · rw [List.getElem?_eq_none h] at hu; cases hu
    rw [List.getElem?_eq_getElem hjl] at hu
    injection hu with hu
    rw [hc' j (by omega), ← hu]
    simp [List.getElem?_eq_getElem hjl]
end
end Go.Proofs.YthnlfgogibjbnaaGreat
