/- A copy of a map (maps.Clone). No condition. -/
import Derived.Test.YtlnomfaaldjnpaaDkDef
import Derived.Laws.Externs
import Derived.Shelf.SlMaps.Clone
namespace Go.Proofs.Ytlnomfaaldjnpaa.DK
open Go.RowKit Go.Proofs.Ytlnomfaaldjnpaa.MI
set_option linter.unusedVariables false

theorem mclone_str (w : World) (b n : Nat) (f : Int → Option _) (h : MapAt scode Try.prog TI w b n f) :
    Calls Try.prog 46 #[.map (some b)] w fun e w' => e = .returned (.map (some w.heap.size)) ∧ MapAt scode Try.prog TI w' w.heap.size n f ∧ Below w.heap.size w w' := by
  obtain ⟨D, ⟨es, clock, hb, F, hs, hD⟩, hv⟩ := h
  have hq := fun w => run_eql_map_nil_sl (P := Try.prog) w 54 _ _ (some b) Try.underlying54
  have H : MapAt scode Try.prog TI (w.alloc (.map es clock)) w.heap.size n f := ⟨D, ⟨es, clock, heap_alloc_new w _, F, hs, hD⟩, hv⟩
  have HH := Lib.hid H
  clear H hv F hs hD
  go_enter Try.func46, Try.ntmps46
  go_wp2
  rw [run_callFunc_extern Try.func56 (by kernel_rfl) (by kernel_rfl) (by kernel_rfl) (e := Extern.MapsClone.clone) (by kernel_rfl), run_maps_clone_sl w 54 hb]
  simp only [Result.andThen]
  rw [Oper.upon_value]
  go_wp2
  rw [run_typeAssert_map_sl _ 54 20 _ _ _ Try.underlying54]
  simp only [Result.andThen]
  rw [Oper.upon_value]
  go_wp2
  go_ret
  exact ⟨rfl, HH.out, (Below.refl _ w).alloc (Nat.le_refl _) _⟩

theorem mclone_wr (w : World) (b n : Nat) (f : Int → Option _) (h : MapAt wcode Try.prog TI w b n f) :
    Calls Try.prog 47 #[.map (some b)] w fun e w' => e = .returned (.map (some w.heap.size)) ∧ MapAt wcode Try.prog TI w' w.heap.size n f ∧ Below w.heap.size w w' := by
  obtain ⟨D, ⟨es, clock, hb, F, hs, hD⟩, hv⟩ := h
  have hq := fun w => run_eql_map_nil_sl (P := Try.prog) w 55 _ _ (some b) Try.underlying55
  have H : MapAt wcode Try.prog TI (w.alloc (.map es clock)) w.heap.size n f := ⟨D, ⟨es, clock, heap_alloc_new w _, F, hs, hD⟩, hv⟩
  have HH := Lib.hid H
  clear H hv F hs hD
  go_enter Try.func47, Try.ntmps47
  go_wp2
  rw [run_callFunc_extern Try.func56 (by kernel_rfl) (by kernel_rfl) (by kernel_rfl) (e := Extern.MapsClone.clone) (by kernel_rfl), run_maps_clone_sl w 55 hb]
  simp only [Result.andThen]
  rw [Oper.upon_value]
  go_wp2
  rw [run_typeAssert_map_sl _ 55 20 _ _ _ Try.underlying55]
  simp only [Result.andThen]
  rw [Oper.upon_value]
  go_wp2
  go_ret
  exact ⟨rfl, HH.out, (Below.refl _ w).alloc (Nat.le_refl _) _⟩
end Go.Proofs.Ytlnomfaaldjnpaa.DK
