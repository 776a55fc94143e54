/- What a law is told of a slice of arrays of whole numbers ([][n]int) that came in: its cells, flat. No condition. -/
import Derived.Test.YtepemmommldbeaaOpen
namespace Go.Proofs.Ytepemmommldbeaa
open Go.RowKit Go.WideShapes Go.ChangeShapes Go.Deep
set_option linter.unusedVariables false

theorem list_of {Q : Nat → Int → Prop} (n : Nat) (each : ∀ i, i < n → ∃ z, Q i z) : ∃ zs : List Int, zs.length = n ∧ ∀ i, i < n → Q i (zs.getD i 0) := by
  induction n with
  | zero => exact ⟨[], rfl, fun i hi => by omega⟩
  | succ n ih =>
    obtain ⟨zs, hz, hq⟩ := ih (fun i hi => each i (by omega))
    obtain ⟨z, hz1⟩ := each n (by omega)
    refine ⟨zs ++ [z], by simp [hz], fun i hi => ?_⟩
    by_cases hil : i < n
    · have := hq i hil
      simpa [List.getElem?_append_left (by omega : i < zs.length)] using this
    · obtain rfl : i = n := by omega
      simpa [← hz] using hz1

def TuplesIs (n : Nat) (w : World) (a : Option Addr) (len cap : Nat) (zs : List Int) : Prop :=
  len ≤ cap ∧ cap ≤ maxLen ∧ zs.length = len * n ∧ (∀ j, j < len * n → (Lit.int .i64 (zs.getD j 0)).wf = true) ∧
  (0 < len → ∃ b off, a = some ⟨b, off, none⟩ ∧ b < w.heap.size ∧ ∀ j, j < len * n → w.cell? ⟨b, off + j, none⟩ = some (.int .i64 (zs.getD j 0)))

theorem tuples_in {H : Type} {enc : TypeId × Value → H} {P : Program} {w : World} {t e i0 : TypeId} {n base : Nat} {v : Value} {d : DataW H} {p : List MemPlace} (hn : 0 < n) (ht : P.underlying t = some (.slice e)) (he : P.underlying e = some (.array n i0)) (hi0 : P.underlying i0 = some (.int .i64))
    (hc : P.cellsOf e = n) (hc0 : P.cellsOf i0 = 1)
    (hok : Value.okWide P w .any base t v) (h : DataW.Trod enc P w 0 (fun _ => true) true t v d p) :
    ∃ a len cap zs, v = .slice a len cap ∧ TuplesIs n w a len cap zs := by
  obtain ⟨a0, l0, c0, rfl⟩ := okWide_slice ht hok
  obtain ⟨fuel, hf⟩ := h
  rcases open_slice ht hf with ⟨hcs, _⟩ | ⟨a, len, cap, m, nn, D, Pl, hcs, _, hl, hm, hmm, _, hi⟩
  · simp [Value.cells] at hcs
    obtain ⟨rfl, rfl, rfl⟩ := hcs
    exact ⟨none, 0, 0, [], rfl, by omega, by unfold maxLen; omega, by simp, fun j hj => by omega, fun h => by omega⟩
  · simp [Value.cells] at hcs
    obtain ⟨rfl, rfl, rfl⟩ := hcs
    have each : ∀ j, j < l0 * n → ∃ z, w.cell? (a.add j) = some (.int .i64 z) ∧ (Lit.int .i64 z).wf = true := by
      intro j hj
      have hq : j / n < l0 := Nat.div_lt_of_lt_mul (by rw [Nat.mul_comm]; exact hj)
      have hr : j % n < n := Nat.mod_lt _ hn
      obtain ⟨cs', h1, h2⟩ := hi (j / n) (by rw [hmm]; simp; omega)
      rw [hc] at h1
      obtain ⟨_, hcl, hat⟩ := World.cells?_some h1
      obtain ⟨xs, m', _, _, _, hxl, hxs⟩ := DataW.trod_array he h2
      have h3 := hxs (j % n) hr
      rw [hc0, Nat.mul_one, List.getElem?_eq_getElem (by omega)] at h3
      obtain ⟨z, h4, _, h5⟩ := DataW.trod_int hi0 h3
      refine ⟨z, ?_, h5⟩
      have h6 := hat (j % n) hr
      rw [add_add_, Nat.div_add_mod'] at h6
      rw [h6]
      have h7 : ((cs'.drop (j % n)).take 1)[0]? = some (.int .i64 z) := by rw [h4]; rfl
      rw [List.getElem?_take, if_pos (by omega), List.getElem?_drop] at h7
      simpa using h7
    obtain ⟨zs, hz, hq⟩ := list_of (Q := fun j z => w.cell? (a.add j) = some (.int .i64 z) ∧ (Lit.int .i64 z).wf = true) (l0 * n) each
    refine ⟨_, _, _, zs, rfl, hl, hm, hz, fun j hj => (hq j hj).2, fun h0 => ?_⟩
    have hpos : 0 < l0 * n := Nat.mul_pos h0 hn
    obtain ⟨b, off, rfl, hcc⟩ := ints_at (a := a) (k := .i64) (zs := zs) (fun i hi => (hq i (by omega)).1) (by omega)
    exact ⟨b, off, rfl, World.block_lt_of_cell? w _ (hcc 0 (by omega)), fun j hj => hcc j (by omega)⟩
end Go.Proofs.Ytepemmommldbeaa
