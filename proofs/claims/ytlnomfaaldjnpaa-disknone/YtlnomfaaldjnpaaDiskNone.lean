/- DiskNone: the walk. No condition. -/
import Derived.Test.YtlnomfaaldjnpaaDkNil
import Derived.Deep.CutBlock
import Derived.Deep.Cut
namespace Go.Proofs.Ytlnomfaaldjnpaa.diskNone
open Go.RowKit Go.Proofs.Ytlnomfaaldjnpaa.DK Go.Proofs.Ytlnomfaaldjnpaa.MI
set_option linter.unusedVariables false
set_option linter.unusedSimpArgs false

def zc : Array Value := #[.int .i64 0, .bool false, .int .i64 0, .map none, .map none, .slice none 0 0, .int .u64 0, .int .u64 0, .int .u64 0, .int .u64 0, .int .u64 0, .int .u64 0, .int .u64 0, .int .u64 0, .int .u64 0, .int .u64 0, .int .u64 0, .int .u64 0, .int .u64 0, .int .u64 0, .int .u64 0, .int .u64 0, .int .u64 0, .int .u64 0, .int .u64 0, .int .u64 0, .int .u64 0, .int .u64 0, .int .u64 0, .int .u64 0, .int .u64 0, .int .u64 0, .int .u64 0, .int .u64 0, .int .u64 0, .int .u64 0, .int .u64 0, .int .u64 0, .int .u64 0, .int .u64 0, .int .u64 0, .bool false, .int .i64 0, .slice none 0 0]
set_option maxHeartbeats 4000000 in
set_option maxRecDepth 100000 in
theorem walk (n e0 : Int) (w : World) (g0 : (Lit.int .i64 n).wf = true) (g1 : (Lit.int .u64 e0).wf = true) :
    Calls Try.prog 11 #[.int .i64 n, .int .u64 e0] w fun e w' => e = .returned (.bool true) ∧ Below w.heap.size w w' := by
  have hfill : ∀ W : World, Calls Try.prog 16 #[.string ⟨#[97]⟩, .int .i64 1] W fun e w' => e = .returned (.string (sameT 97 1)) ∧ Below W.heap.size W w' := fun W => fill_any W 97 1 (by omega)
  generalize sameT 97 1 = Y at *
  go_enter Try.func11, Try.ntmps11
  go_upto_region 3 with fail
  have hb1 : Blk (w.alloc (.cells zc TD)) w.heap.size TD zc := Blk.new _ _ _
  have hb2 : Below w.heap.size w (w.alloc (.cells zc TD)) := belowNew (belowSame w) _
  unfold zc at hb1 hb2
  generalize w.alloc (.cells #[.int .i64 0, .bool false, .int .i64 0, .map none, .map none, .slice none 0 0, .int .u64 0, .int .u64 0, .int .u64 0, .int .u64 0, .int .u64 0, .int .u64 0, .int .u64 0, .int .u64 0, .int .u64 0, .int .u64 0, .int .u64 0, .int .u64 0, .int .u64 0, .int .u64 0, .int .u64 0, .int .u64 0, .int .u64 0, .int .u64 0, .int .u64 0, .int .u64 0, .int .u64 0, .int .u64 0, .int .u64 0, .int .u64 0, .int .u64 0, .int .u64 0, .int .u64 0, .int .u64 0, .int .u64 0, .int .u64 0, .int .u64 0, .int .u64 0, .int .u64 0, .int .u64 0, .int .u64 0, .bool false, .int .i64 0, .slice none 0 0] TD) = W1 at *
  have HB := Lib.hid hb1
  have HW := Lib.hid hb2
  clear hb1 hb2
  go_wp2_with (first
    | (go_at_call 20; (with_reducible refine (restore_zero (HB.out.cell 0)).mono ?_); rintro e wn ⟨rfl, rfl⟩)
    | (go_at_call 17; (with_reducible refine (read_zero (HB.out.cell 1) _ _).mono ?_); rintro e wn ⟨rfl, rfl⟩)
    | (go_at_call 23; (with_reducible refine (last_zero (H3.out.1.cell 40)).mono ?_); rintro e wn ⟨rfl, rfl⟩)
    | (go_at_call 32; (with_reducible refine (sectors_zero ((H3.out.1.alloc _).cell 0)).mono ?_); rintro e wn ⟨rfl, rfl⟩)
    | (go_at_call 17; (with_reducible refine (read_nil _ _ _).mono ?_); rintro e wn ⟨rfl, rfl⟩)
    | (go_at_call 15; (with_reducible refine (write_nil _ _ _ _ _).mono ?_); rintro e wn ⟨rfl, rfl⟩)
    | (go_at_call 24; (with_reducible refine (barrier_nil _ _ _).mono ?_); rintro e wn ⟨rfl, rfl⟩)
    | (go_at_call 14; (with_reducible refine (admit_nil _ _ _).mono ?_); rintro e wn ⟨rfl, rfl⟩)
    | (go_at_call 28; (with_reducible refine (fence_nil _ _).mono ?_); rintro e wn ⟨rfl, rfl⟩)
    | (go_at_call 18; (with_reducible refine (put_nil _ _ _).mono ?_); rintro e wn ⟨rfl, rfl⟩)
    | (go_at_call 22; (with_reducible refine (epoch_nil _ _).mono ?_); rintro e wn ⟨rfl, rfl⟩)
    | (go_at_call 21; (with_reducible refine (word_nil _ _).mono ?_); rintro e wn ⟨rfl, rfl⟩)
    | (go_at_call 23; (with_reducible refine (last_nil _).mono ?_); rintro e wn ⟨rfl, rfl⟩)
    | (go_at_call 29; (with_reducible refine (waiting_nil _ _).mono ?_); rintro e wn ⟨rfl, rfl⟩)
    | (go_at_call 19; (with_reducible refine (cut_nil _ _ _ _).mono ?_); rintro e wn ⟨rfl, rfl⟩)
    | (go_at_call 32; (with_reducible refine (sectors_nil _).mono ?_); rintro e wn ⟨rfl, rfl⟩)
    | (go_at_call 33; (with_reducible refine (table_nil _).mono ?_); rintro e wn ⟨rfl, rfl⟩)
    | (go_at_call 26; (with_reducible refine (on_nil _).mono ?_); rintro e wn ⟨rfl, rfl⟩)
    | (go_at_call 31; (with_reducible refine (twin_nil _).mono ?_); rintro e wn ⟨rfl, rfl⟩)
    | (go_at_call 12; refine (alive_any _).mono ?_; rintro e w2 ⟨rfl, hb⟩; have H2 := Lib.hid (And.intro (HB.out.keeps (Keeps.of_below hb (fun _ => False)) (fun h => h)) (HW.out.trans (hb.mono HW.out.size))); clear hb)
    | (go_at_call 16; (with_reducible refine (hfill _).mono ?_); rintro e w3 ⟨rfl, hb⟩; have H3 := Lib.hid (And.intro (H2.out.1.keeps (Keeps.of_below hb (fun _ => False)) (fun h => h)) (H2.out.2.trans (hb.mono H2.out.2.size))); clear hb))
  go_ret
  exact ⟨ret_bool (by first | rfl | simp), H3.out.2.alloc H3.out.2.size _⟩
end Go.Proofs.Ytlnomfaaldjnpaa.diskNone
