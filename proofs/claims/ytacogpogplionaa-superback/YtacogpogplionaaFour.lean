/- sum.four and the document's four: the four bytes of a number. No condition. -/
import Derived.Test.YtacogpogplionaaWire
import Derived.Laws.BytesArg
namespace Go.Proofs.Ytacogpogplionaa.WI
set_option maxRecDepth 100000
open Go.RowKit
set_option linter.unusedVariables false

theorem bytes_any {W w : World} {B g : Nat} {bs : List Int} (h : Wr W B g bs w) (hl : 0 < bs.length) :
    Calls Try.prog 18 #[.pointer (some ⟨g, 0, none⟩)] w fun e w' => e = .returned (.tuple #[.string (strOfNums bs), .int .i64 0]) ∧ w = w' := by
  obtain ⟨a, c, hbk, ho, hB, hBg⟩ := h
  obtain ⟨b, x, rfl, _, _, _⟩ := ownCell ho hl
  have c0 : w.cell? ⟨g, 0, none⟩ = some (.slice (some ⟨b, 0, none⟩) bs.length c) := hbk.cell 0
  have c1 : w.cell? ⟨g, 1, none⟩ = some (.int .i64 0) := hbk.cell 1
  have hcv := run_convert_bytes_arg (P := Try.prog) w 37 5 Try.underlying37 Try.underlying5 b 0 bs.length c bs rfl (fun i hi => by
    obtain ⟨b', x', e1, e2, e3, _⟩ := ownCell ho hi
    injection e1 with e1
    injection e1 with e1
    subst e1
    rw [Nat.zero_add, e3]
    rw [List.getElem?_map, List.getElem?_eq_getElem hi] at e2
    injection e2 with e2
    rw [← e2]
    simp [byteV, List.getElem?_eq_getElem hi]) 9 Try.underlying9
  go_enter Try.func18, Try.ntmps18
  go_wp2
  go_ret2
  exact ⟨rfl, rfl⟩

/-- The four bytes of a number. -/
def fourT (v : Int) : ByteArray := strOfNums (lowB v 4)
theorem four_any (v : Int) (h0 : 0 ≤ v) (h1 : v ≤ 4294967295) (w : World) :
    Calls Try.prog 33 #[.int .u32 v] w fun e w' => e = .returned (.string (fourT v)) ∧ Below w.heap.size w w' := by
  have h : Wr w w.heap.size w.heap.size [] (w.alloc (.cells #[.slice none 0 0, .int .i64 0] 47)) := ⟨none, 0, Blk.new _ _ _, World.ownsRow_nil _ _ _ _, (Below.refl _ _).alloc (Nat.le_refl _) _, Nat.le_refl _⟩
  have hn := num4 h v h0 h1
  have hm : v % 18446744073709551616 = v := by omega
  go_enter Try.func33, Try.ntmps33
  go_wp2_with (first
    | (go_at_call 17; refine hn.mono ?_; rintro e w2 ⟨rfl, hw2⟩; have H2 := Lib.hid hw2; clear hw2)
    | (go_at_call 18; refine (bytes_any H2.out (by simp [lowB])).mono ?_; rintro e w' ⟨rfl, rfl⟩))
  go_ret
  obtain ⟨_, _, _, _, hB, _⟩ := H2.out
  exact ⟨rfl, hB⟩
end Go.Proofs.Ytacogpogplionaa.WI
