/- Go's '==' on pairs of numbers. No condition. -/
import Derived.Test.YtanhdcffbdhkcaaNp3
import Derived.Laws.StructEq
import Derived.ChangeKeysEq
namespace Go.Proofs.Ytanhdcffbdhkcaa.NP
set_option maxRecDepth 100000
set_option maxRecDepth 100000
open Go.RowKit Go.Proofs.Ytanhdcffbdhkcaa.RP Go.Proofs.Ytanhdcffbdhkcaa.CM Go.Proofs.Ytanhdcffbdhkcaa.NT
set_option linter.unusedVariables false
set_option linter.unusedSimpArgs false

theorem part0 (w : World) (x y : Int) : (part 3 #[.int .i64 x, .int .i64 y] (0 * 1)).run Try.prog w = .ok (.int .i64 x) w := by
  simp [part, isAgg, run_underlying Try.underlying3]
theorem part1 (w : World) (x y : Int) : (part 3 #[.int .i64 x, .int .i64 y] (1 * 1)).run Try.prog w = .ok (.int .i64 y) w := by
  simp [part, isAgg, run_underlying Try.underlying3]
theorem part1' (w : World) (x y : Int) : (part 3 #[.int .i64 x, .int .i64 y] 1).run Try.prog w = .ok (.int .i64 y) w := part1 w x y
theorem pair_eq (w : World) (a b c d : Int) : (Op.equalIn 10000 63 (.agg #[.int .i64 a, .int .i64 b]) (.agg #[.int .i64 c, .int .i64 d])).run Try.prog w = .ok (a == c && b == d) w := by
  obtain ⟨i, hi⟩ : ∃ i, Try.prog.info? 3 = some i  := Option.isSome_iff_exists.1 (by kernel_rfl : (Try.prog.info? 3).isSome = true)
  have hc : Try.prog.cellsOf 3 = 1 := by kernel_rfl
  rw [run_equalIn_array w 9999 _ _ Try.underlying63 hi, hc]
  show (Op.eqItems 9999 3 1 _ _ [0, 1]).run Try.prog w = _
  simp only [Op.eqItems, Sem.run_bind, part0, part1, Result.andThen_ok, run_equalIn_int w 9998 3 .i64 .i64 _ _ Try.underlying3]
  cases h1 : (a == c) <;> cases h2 : (b == d) <;> simp [part1', run_equalIn_int w 9998 3 .i64 .i64 _ _ Try.underlying3, h2]
end Go.Proofs.Ytanhdcffbdhkcaa.NP
