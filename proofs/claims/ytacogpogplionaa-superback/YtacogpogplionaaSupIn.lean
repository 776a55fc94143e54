/- What a law is told of a shape that came in. No condition. -/
import Derived.Test.YtacogpogplionaaSup9
import Derived.Test.YtacogpogplionaaOpen
import Derived.Deep.Strs
namespace Go.Proofs.Ytacogpogplionaa.SU
set_option maxRecDepth 100000
open Go.RowKit Go.WideShapes Go.ChangeShapes Go.Deep
set_option linter.unusedVariables false
set_option linter.unusedSimpArgs false

section
variable {H : Type} {enc : TypeId × Value → H} {w : World}
theorem ci : Try.prog.cellsOf 3 = 1 := by kernel_rfl
theorem csh : Try.prog.cellsOf TSh = 5 := by kernel_rfl
theorem under_sh : ∃ fs : Array Field, Try.prog.underlying TSh = some (.struct fs) ∧ fs.map (fun f : Field => (f.type, f.offset)) = #[(3, 0), (3, 1), (3, 2), (3, 3), (3, 4)] := ⟨_, Try.underlying23, by kernel_rfl⟩
structure ShOk (s : Sh) : Prop where
  n : -9223372036854775808 ≤ s.n ∧ s.n ≤ 9223372036854775807
  b : -9223372036854775808 ≤ s.b ∧ s.b ≤ 9223372036854775807
  l : -9223372036854775808 ≤ s.l ∧ s.l ≤ 9223372036854775807
  c : -9223372036854775808 ≤ s.c ∧ s.c ≤ 9223372036854775807
  e : -9223372036854775808 ≤ s.e ∧ s.e ≤ 9223372036854775807
theorem shape_in {base : Nat} {v : Value} {d : DataW H} {p : List MemPlace} (hok : Value.okWide Try.prog w .any base TSh v) (h : DataW.Trod enc Try.prog w 0 (fun _ => true) true TSh v d p) :
    ∃ s : Sh, v = sagg s ∧ ShOk s := by
  obtain ⟨fs, hfs, hff⟩ := under_sh
  obtain ⟨cs, rfl, hsz⟩ := okWide_struct hfs hok
  obtain ⟨fuel, hf⟩ := h
  have hcc : (Value.cells (.agg cs)).toList = cs.toList := by simp [Value.cells]
  rw [hcc] at hf
  obtain ⟨xs, m', _, _, hlen, hxl, hfld⟩ := DataW.trod_struct hfs hf
  have hfsz : fs.size = 5 := by have := congrArg Array.size hff; simpa using this
  have get : ∀ (j : Nat), (fs.map (fun f : Field => (f.type, f.offset)))[j]? = some (3, j) → j < fs.size → ∃ y, DataW.trod enc Try.prog w 0 (fun _ => true) true m' 3 ((cs.toList.drop j).take 1) = some y := by
    intro j hj hjs
    rw [Array.getElem?_map] at hj
    cases hfj : fs[j]? with
    | none => rw [hfj] at hj; cases hj
    | some f =>
      rw [hfj] at hj
      injection hj with hj
      injection hj with h1 h2
      have := hfld j f hfj
      rw [h1, h2, ci] at this
      rw [this]
      exact ⟨_, List.getElem?_eq_getElem (by rw [hxl]; exact hjs)⟩
  rw [csh] at hlen
  obtain ⟨y0, hy0⟩ := get 0 (by rw [hff]; rfl) (by omega)
  obtain ⟨y1, hy1⟩ := get 1 (by rw [hff]; rfl) (by omega)
  obtain ⟨y2, hy2⟩ := get 2 (by rw [hff]; rfl) (by omega)
  obtain ⟨y3, hy3⟩ := get 3 (by rw [hff]; rfl) (by omega)
  obtain ⟨y4, hy4⟩ := get 4 (by rw [hff]; rfl) (by omega)
  obtain ⟨cs⟩ := cs
  match cs, hlen with
  | [v0, v1, v2, v3, v4], _ =>
    obtain ⟨z0, e0, _, w0⟩ := DataW.trod_int Try.underlying3 hy0
    obtain ⟨z1, e1, _, w1⟩ := DataW.trod_int Try.underlying3 hy1
    obtain ⟨z2, e2, _, w2⟩ := DataW.trod_int Try.underlying3 hy2
    obtain ⟨z3, e3, _, w3⟩ := DataW.trod_int Try.underlying3 hy3
    obtain ⟨z4, e4, _, w4⟩ := DataW.trod_int Try.underlying3 hy4
    simp at e0 e1 e2 e3 e4
    subst e0 e1 e2 e3 e4
    exact ⟨⟨z0, z1, z2, z3, z4⟩, rfl, ⟨bounds_i64 w0, bounds_i64 w1, bounds_i64 w2, bounds_i64 w3, bounds_i64 w4⟩⟩
end
end Go.Proofs.Ytacogpogplionaa.SU
