/- commonslaw9: Shape, alive. No condition. -/
import Derived.Test.YtacogpogplionaaSup7
import Derived.Laws.StructEq
namespace Go.Proofs.Ytacogpogplionaa.SU
set_option maxRecDepth 100000
open Go.RowKit Go.Proofs.Ytacogpogplionaa.MI Go.Proofs.Ytacogpogplionaa.WI Go.Proofs.Ytacogpogplionaa.SM Go.Proofs.Ytacogpogplionaa.DK
set_option linter.unusedVariables false
set_option linter.unusedSimpArgs false

theorem settle_one_now (X : Dk) (b : ByteArray) : (settleK (oneK X 0 0 b) 0).now 0 = some b := by
  show putF X.now 0 b 0 = some b
  unfold putF
  exact if_pos rfl
theorem format_up {D : Dk} {s : Sh} (h1 : D.on = true) (h2 : D.armed = false) (hl : 0 ≤ D.last) (hg : Good s) (hr : sizeI s ≤ (D.room : Int)) :
    (formatK D s).on = true ∧ (formatK D s).armed = false ∧ (formatK D s).room = D.room ∧ (formatK D s).now 0 = some (superT s) := by
  obtain ⟨_, q2, q3⟩ := adm_ok h1 h2 hl
  obtain ⟨_, _, u3, u4, u5⟩ := lay_parts q2 hg (by rw [q3]; exact hr)
  unfold formatK
  rw [(fence_good (n := 0) u4.on rfl u4.armed).2]
  refine ⟨u4.on, u4.armed, u5.trans q3, ?_⟩
  show (layK (admD D) (D.last + 1) s).now 0 = _
  rw [u3]
  exact settle_one_now _ _
theorem format_read {D : Dk} {s : Sh} (h1 : D.on = true) (h2 : D.armed = false) (hl : 0 ≤ D.last) (hg : Good s) (hr : sizeI s ≤ (D.room : Int)) :
    readE (formatK D s) 0 1 = 0 ∧ readT (formatK D s) 0 1 = superT s := by
  obtain ⟨a, b, c, d⟩ := format_up h1 h2 hl hg hr
  have hb := size_b hg
  have he := (read_good (D := formatK D s) (a := 0) a (k := 1) (by omega) ⟨Int.le_refl 0, by rw [c]; omega⟩).1
  exact read_one he (by rw [d]; rfl)
def sh0 : Sh := ⟨2, 10, 8, 4, 32⟩
theorem good0 : Good sh0 := ⟨by decide, by decide, by decide, by decide, by decide⟩
theorem shape_any (w : World) : Calls Try.prog 13 #[] w fun e w' => e = .returned (sagg sh0) ∧ Below w.heap.size w w' := by
  unfold sagg sh0
  have hbn := Blk.new w TSh #[.int .i64 2, .int .i64 10, .int .i64 8, .int .i64 4, .int .i64 32]
  go_enter Try.func13, Try.ntmps13
  go_wp2_with fail
  have d0 := hbn.cell 0
  have d1 := hbn.cell 1
  have d2 := hbn.cell 2
  have d3 := hbn.cell 3
  have d4 := hbn.cell 4
  simp at d0 d1 d2 d3 d4
  exact bodyPost_ret (v := .agg #[.int .i64 2, .int .i64 10, .int .i64 8, .int .i64 4, .int .i64 32]) (by simp [results, Try.results13, go_sem, d0, d1, d2, d3, d4]) rfl ⟨rfl, belowNew (belowSame w) _⟩
end Go.Proofs.Ytacogpogplionaa.SU
