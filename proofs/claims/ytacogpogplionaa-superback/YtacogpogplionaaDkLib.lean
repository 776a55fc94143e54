/- The library's functions that the disk calls: a copy of a row (slices.Clone), of a map (maps.Clone), a builder's WriteString and String, strings.Clone. No condition. -/
import Derived.Test.YtacogpogplionaaDkDef
import Derived.Test.YtacogpogplionaaAppend
import Derived.Test.YtacogpogplionaaShelf
import Derived.Lib.SliceRun
import Derived.Lib.AppendStr
import Derived.Laws.Externs
namespace Go.Proofs.Ytacogpogplionaa.DK
set_option maxRecDepth 100000
open Go.RowKit Go.Proofs.Ytacogpogplionaa.MI
set_option linter.unusedVariables false
set_option linter.unusedSimpArgs false

theorem infI : (Try.prog.info? 3).map (fun i => (i.zero, i.size, i.bytes)) = some (some (.int .i64 0), 1, 8) := by kernel_rfl
theorem infU : (Try.prog.info? 51).map (fun i => (i.zero, i.size, i.bytes)) = some (some (.int .u64 0), 1, 8) := by kernel_rfl
theorem infB : (Try.prog.info? 5).map (fun i => (i.zero, i.size, i.bytes)) = some (some (.int .u8 0), 1, 1) := by kernel_rfl
theorem infW : (Try.prog.info? 103).map (fun i => (i.zero, i.size, i.bytes)) = some (some (wagg wr0), 4, 40) := by kernel_rfl
/-- A copy of a row: new, unless there was none. -/
def CloneOut (w : World) (e : TypeId) (size : Nat) (A : Option Addr) (m : Nat) (xs : List Value) (x : Ending) (w' : World) : Prop :=
  ∃ a c, x = .returned (.slice a m c) ∧ w'.ownsRow w.heap.size e size (.slice a m c) m xs ∧ Below w.heap.size w w' ∧ (A = none → a = none)

theorem clone_int (w : World) (A : Option Addr) (m c : Nat) (xs : List Value) (hl : Lies w 1 A m xs) (h1 : ∀ u ∈ xs, u.oneCell' = true) (hm : m ≤ 1000000000000) (hn : A = none → m = 0 ∧ c = 0) :
    Calls Try.prog 65 #[.slice A m c] w (CloneOut w 3 1 A m xs) := by
  have q : ∀ (w : World) (a : Option Addr) (n c n' c' : Nat), (binOp .eql 48 (.slice a n c) (.slice none n' c')).run Try.prog w = .ok (.bool a.isNone) w := fun w a n c n' c' => Lib.run_eql_slice_nil w _ _ a n c n' c' Try.underlying48
  cases A with
  | none =>
    obtain ⟨rfl, rfl⟩ := hn rfl
    have hx : xs = [] := List.eq_nil_of_length_eq_zero (by have := hl.1; simpa using this)
    subst hx
    clear hl h1 hn hm
    go_enter Try.func65, Try.ntmps65
    go_wp2
    go_ret
    exact ⟨none, 0, rfl, World.ownsRow_nil _ _ _ _, Below.refl _ _, fun _ => rfl⟩
  | some ad =>
    obtain ⟨i0, hi, hz0, hz1, hz2⟩ := info_parts infI
    have HL := Lib.hid hl
    have H1 := Lib.hid h1
    clear hl h1 hn
    go_enter Try.func65, Try.ntmps65
    go_wp2_with (at_builtin; refine wpList_append_lie _ rfl _ _ 48 rfl w.heap.size 3 i0 _ 1 8 Try.underlying48 hi hz0 hz1 hz2 rfl (by decide) (some ⟨w.heap.size, 0, none⟩) 0 0 [] rfl (World.ownsRow_made w #[] 0 (Nat.le_refl _) (Nat.zero_le _) rfl) (some ad) m c xs rfl (HL.out.old (by decide) ((Below.refl _ w).alloc (Nat.le_refl _) _)) H1.out (by unfold maxLen; omega) (by omega) (by simp) ?_; intro a1 cp1 w1 hown1 hg1 hat1)
    rw [Nat.zero_add, List.nil_append] at hown1
    have O1 := Lib.hid hown1
    have hb1 : Below w.heap.size w w1 := ((Below.refl _ w).alloc (Nat.le_refl _) _).grown hg1 (by simp) (by intro k hk; simp [Value.ownBlock] at hk; omega)
    clear hown1 hg1 hat1
    go_wp2
    go_ret
    exact ⟨a1, cp1, by simp, O1.out, hb1, fun h => by cases h⟩

/-! ### a builder -/
theorem sizeBuilder : (Try.prog.info? 89).map (fun i => i.size) = some 2 := by kernel_rfl
theorem liesBuilder : liesAt Try.prog Try.prog.depth 89 (2 / Try.prog.cellsOf 89) 0 89 1 = true := by kernel_rfl
theorem copyCheck_any (B b : Nat) (bs : List Value) (w : World) (h : Lib.IsBuilder 89 5 B b bs w) :
    Calls Try.prog 57 #[.pointer (some ⟨b, 0, none⟩)] w fun e w' => e = .returned (.tuple #[]) ∧ Lib.BuilderAt 89 5 B b (.pointer (some ⟨b, 0, none⟩)) bs w' ∧ Below B w w' := by
  obtain ⟨j, hj, hjs⟩ := Option.map_eq_some_iff.1 sizeBuilder
  rcases h with h | h
  · have c0 := h.cell0
    have hsh := h.shape
    have f0 := h.frozen0
    have hf : Lib.BuilderAt 89 5 B b (.pointer (some ⟨b, 0, none⟩)) bs (w.setCell ⟨b, 0, none⟩ (.pointer (some ⟨b, 0, none⟩))) ∧ Below B w (w.setCell ⟨b, 0, none⟩ (.pointer (some ⟨b, 0, none⟩))) := ⟨h.used _, (Below.refl B w).setCell (p := ⟨b, 0, none⟩) h.1 _⟩
    have HF := Lib.hid hf
    clear hf h
    go_enter Try.func57, Try.ntmps57
    go_wp2
    rw [Lib.run_to_unsafe w ⟨b, 0, none⟩ Try.underlying87 Try.underlying111 hj (by rw [hjs]; decide) hsh (Nat.zero_lt_succ 1)]
    simp only [Result.andThen]
    rw [Oper.upon_value]
    go_wp2
    rw [run_callFunc_extern Try.func63 (by kernel_rfl) (by kernel_rfl) (by kernel_rfl) (e := Extern.AbiNoEscape.same) (by kernel_rfl)]
    rw [Lib.run_noEscape]
    simp only [Result.andThen]
    rw [Oper.upon_value]
    go_wp2
    rw [Lib.run_from_unsafe w ⟨b, 0, none⟩ Try.underlying111 Try.underlying87 hj hsh liesBuilder]
    simp only [Result.andThen]
    rw [Oper.upon_value]
    go_wp2
    refine bodyPost_end (results_none rfl _ _ _) rfl ?_
    exact ⟨rfl, HF.out⟩
  · have c0 := h.cell0
    have HF := Lib.hid h
    clear h
    go_enter Try.func57, Try.ntmps57
    go_wp2
    rw [Lib.run_neq_ptr_same w _ Try.underlying87 hj]
    go_wp2
    refine bodyPost_end (results_none rfl _ _ _) rfl ?_
    exact ⟨rfl, HF.out, Below.refl B _⟩
theorem builder_open {B b : Nat} {bs : List Value} {w w1 : World} (s : ByteArray) (hBw : B ≤ w.heap.size) (h1 : Lib.BuilderAt 89 5 B b (.pointer (some ⟨b, 0, none⟩)) bs w1) (hb1 : Below B w w1) :
    ∃ ao1 cap1, w1.cell? ⟨b, 1, none⟩ = some (.slice ao1 bs.length cap1) ∧ B ≤ w1.heap.size ∧ Hid (w1.ownsRow B 5 1 (.slice ao1 bs.length cap1) bs.length bs) ∧
      Hid (∀ (v' : Value) (w2 : World), w2.ownsRow B 5 1 v' (bs.length + s.size) (bs ++ Lib.strCells s) → w1.grownBy w2 (Value.slice ao1 bs.length cap1).ownBlock →
      ∃ ao n' cap, v' = .slice ao n' cap ∧ w2.cell? ⟨b, 0, none⟩ = some (.pointer (some ⟨b, 0, none⟩)) ∧ w2.cell? ⟨b, 1, none⟩ = some (.slice ao1 bs.length cap1) ∧ w2.frozen? ⟨b, 1, none⟩ = false ∧
        Hid (Lib.BuilderAt 89 5 B b (.pointer (some ⟨b, 0, none⟩)) (bs ++ Lib.strCells s) (w2.setCell ⟨b, 1, none⟩ (.slice ao n' cap)) ∧ Below B w (w2.setCell ⟨b, 1, none⟩ (.slice ao n' cap)))) := by
  obtain ⟨hB, v, hbk, hown, hne⟩ := h1
  obtain ⟨ao1, cap1, rfl⟩ : ∃ ao cap, v = .slice ao bs.length cap := by
    rcases hown.2 with ⟨hv, h0⟩ | ⟨g, cap, cur, hv, _⟩
    · exact ⟨none, 0, by rw [hv, h0]⟩
    · exact ⟨_, _, hv⟩
  refine ⟨ao1, cap1, by rw [Lib.cell_of_heap hbk]; rfl, Nat.le_trans hBw hb1.size, Lib.hid hown, Lib.hid ?_⟩
  intro v' w2 hown' hgrow
  have hlt : b < w1.heap.size := by
    rcases Nat.lt_or_ge b w1.heap.size with h' | h'
    · exact h'
    · simp [Array.getElem?_eq_none h'] at hbk
  have hb2 : w2.heap[b]? = some (.cells #[.pointer (some ⟨b, 0, none⟩), .slice ao1 bs.length cap1] 89 (0, 0)) := by
    rw [hgrow.block b hlt (fun e => hne e.symm)]
    exact hbk
  obtain ⟨ao, n', cap, rfl⟩ : ∃ ao n' cap, v' = .slice ao n' cap := by
    rcases hown'.2 with ⟨hv, _⟩ | ⟨g, cap, cur, hv, _⟩
    · exact ⟨_, _, _, hv⟩
    · exact ⟨_, _, _, hv⟩
  exact ⟨ao, n', cap, rfl, by rw [Lib.cell_of_heap hb2]; rfl, by rw [Lib.cell_of_heap hb2]; rfl, Lib.frozen_of_heap hb2 1, Lib.hid ⟨Lib.BuilderAt.put hB hb2 (bs' := bs ++ Lib.strCells s) (by simpa [Lib.strCells_length] using hown') (by decide), (hb1.grown hgrow (by have := hb1.size; omega) (fun k hk => (hown.lt k hk).1)).setCell (p := ⟨b, 1, none⟩) hB _⟩⟩
theorem writeString_any (B b : Nat) (bs : List Value) (s : ByteArray) (w : World) (h : Lib.IsBuilder 89 5 B b bs w) (hlen : bs.length + s.size ≤ 140737488355328) (hBw : B ≤ w.heap.size) :
    Calls Try.prog 46 #[.pointer (some ⟨b, 0, none⟩), .string s] w fun e w' => e = .returned (.tuple #[.int .i64 s.size, .nilIface]) ∧ Lib.BuilderAt 89 5 B b (.pointer (some ⟨b, 0, none⟩)) (bs ++ Lib.strCells s) w' ∧ Below B w w' := by
  obtain ⟨i0, hi, hz0, hz1, hz2⟩ := info_parts infB
  have kc := copyCheck_any B b bs w h
  clear h
  go_enter Try.func46, Try.ntmps46
  go_wp2_with (first
    | (go_at_call 57; refine kc.mono ?_; rintro e w1 ⟨rfl, h1, hb1⟩; obtain ⟨ao1, cap1, c1, hsz, O1, FIN⟩ := builder_open s hBw h1 hb1; clear h1 hb1)
    | (at_builtin; refine Lib.wpList_append_own_string _ rfl _ _ 37 9 rfl B 5 i0 Try.underlying37 Try.underlying9 hi hz0 hz1 hz2 _ _ _ rfl O1.out s rfl (by unfold maxLen; omega) (by omega) (by omega) ?_; intro v' w2 hown' hgrow hnil; obtain ⟨ao, n', cap, rfl, d0, d1, f1, HF⟩ := FIN.out v' w2 hown' hgrow; clear hown' hgrow hnil FIN))
  go_ret2
  exact ⟨rfl, HF.out⟩
theorem strClone_any (s : ByteArray) (w : World) (h : s.size ≤ 281474976710656) : Calls Try.prog 35 #[.string s] w fun e w' => e = .returned (.string s) ∧ Below w.heap.size w w' := by
  have kc := Try.stringslite_Clone s w h
  go_enter Try.func35, Try.ntmps35
  go_wp2_with (go_at_call 52; refine kc.mono ?_; rintro e w1 ⟨rfl, h1⟩; have H1 := Lib.hid h1; clear h1)
  go_ret
  exact ⟨rfl, H1.out⟩
end Go.Proofs.Ytacogpogplionaa.DK

