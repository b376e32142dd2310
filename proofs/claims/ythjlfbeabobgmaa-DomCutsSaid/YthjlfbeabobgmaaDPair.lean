/-
  Two pairs held against each other.
-/
import Derived.Test.YthjlfbeabobgmaaDBase
import Derived.ChangeKeysEq
namespace Go.Proofs.Ythjlfbeabobgmaa
open Go Go.RowKit

theorem eql_arr2 {P : Program} {t e : TypeId} {i : TypeInfo} (hu : P.underlying t = some (.array 2 e)) (hi : P.info? e = some i) (he : P.underlying e = some (.int .i64)) (hc : P.cellsOf e = 1) (a b c d : Int) (w : World) :
    (binOp .eql t (.agg #[.int .i64 a, .int .i64 b]) (.agg #[.int .i64 c, .int .i64 d])).run P w = .ok (.bool (decide ((a, b) = (c, d)))) w := by
  simp only [binOp, Op.equal, Op.maxDepth, Sem.run_bind]
  rw [run_equalIn_array (P := P) w _ _ _ hu hi, hc]
  have hr : List.range 2 = [0, 1] := rfl
  rw [hr]
  by_cases h1 : a = c <;> by_cases h2 : b = d <;>
    simp [Op.eqItems, part, isAgg, run_underlying he, run_equalIn_int w _ _ _ _ _ _ he, h1, h2, Result.andThen]

theorem eql_pair (a b c d : Int) (w : World) : (binOp .eql 27 (.agg #[.int .i64 a, .int .i64 b]) (.agg #[.int .i64 c, .int .i64 d])).run Try.prog w = .ok (.bool (decide ((a, b) = (c, d)))) w := by
  obtain ⟨i, z, hi, _⟩ := info_of (P := Try.prog) (e := 3) (z := .int .i64 0) (s := 1) (b := 8) (by kernel_rfl) rfl
  exact eql_arr2 Try.underlying27 hi Try.underlying3 (by kernel_rfl) a b c d w
theorem neq_pair (a b : Int) (w : World) : (binOp .neq 27 (.agg #[.int .i64 a, .int .i64 b]) (.agg #[.int .i64 a, .int .i64 b])).run Try.prog w = .ok (.bool false) w := by
  have := neq_of_eql (eql_pair a b a b w)
  simpa using this
end Go.Proofs.Ythjlfbeabobgmaa
