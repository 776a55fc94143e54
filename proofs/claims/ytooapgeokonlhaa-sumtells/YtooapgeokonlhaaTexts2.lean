/- A slice of texts that came in, with the sizes of its texts. No condition. -/
import Derived.Test.YtooapgeokonlhaaOpen
import Derived.Test.YtooapgeokonlhaaChecked
namespace Go.Proofs.Ytooapgeokonlhaa
open Go.RowKit Go.WideShapes Go.ChangeShapes Go.Deep
set_option linter.unusedVariables false
def TextsIs (w : World) (a : Option Addr) (len cap : Nat) (l : List ByteArray) : Prop := Lies w 1 a len (l.map Value.string) ∧ len ≤ cap ∧ cap ≤ maxLen ∧ l.length = len ∧ ∀ s ∈ l, s.size ≤ maxLen
theorem texts2_in {H : Type} {enc : TypeId × Value → H} {w : World} {base : Nat} {v : Value} {d : DataW H} {p : List MemPlace}
    (hok : Value.okWide Try.prog w .any base 22 v) (h : DataW.Trod enc Try.prog w 0 (fun _ => true) true 22 v d p) : ∃ a len cap l, v = .slice a len cap ∧ TextsIs w a len cap l := by
  obtain ⟨a0, l0, c0, rfl⟩ := okWide_slice Try.underlying22 hok
  obtain ⟨fuel, hf⟩ := h
  rcases open_strings Try.underlying22 Try.underlying9 (by kernel_rfl) hf with ⟨hcs, _⟩ | ⟨a, len, cap, ss, hcs, _, hl, hm, hz, _, hcell, hsz⟩
  · simp [Value.cells] at hcs
    obtain ⟨rfl, rfl, rfl⟩ := hcs
    exact ⟨none, 0, 0, [], rfl, Lies.nil, Nat.le_refl _, Nat.zero_le _, rfl, by simp⟩
  · simp [Value.cells] at hcs
    obtain ⟨rfl, rfl, rfl⟩ := hcs
    simp at hz
    refine ⟨_, _, _, ss.take l0, rfl, ⟨by simp; omega, fun _ => ⟨a, rfl, fun j u hu => ?_⟩⟩, hl, hm, by simp; omega, fun s hs => hsz s (List.mem_of_mem_take hs)⟩
    rw [List.getElem?_map, List.getElem?_take] at hu
    split at hu
    · rename_i hj
      have hjl : j < ss.length := by omega
      rw [List.getElem?_eq_getElem hjl] at hu
      injection hu with hu
      rw [hcell j hjl, ← hu]
      simp [List.getElem?_eq_getElem hjl]
    · simp at hu
end Go.Proofs.Ytooapgeokonlhaa
