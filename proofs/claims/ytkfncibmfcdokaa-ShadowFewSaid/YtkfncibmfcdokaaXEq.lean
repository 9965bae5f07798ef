/- Equality of small structs. -/
import Derived.Test.YtkfncibmfcdokaaProg
import Derived.Test.YtkfncibmfcdokaaXRun
import Derived.Laws.StructEq
namespace Go.Proofs.Ytkfncibmfcdokaa
open Go.X
theorem eqS_56 {x y : Operand} (a0 a1 b0 b1 : Int) (w : World) : ((do eqGuard .eql 56 x y (.agg #[.int .i64 a0, .int .i64 a1]) (.agg #[.int .i64 b0, .int .i64 b1]); binOp .eql 56 (.agg #[.int .i64 a0, .int .i64 a1]) (.agg #[.int .i64 b0, .int .i64 b1]) : Sem Value)).run Try.prog w = .ok (.bool ((a0 == b0) && (a1 == b1))) w := by
  cases h0 : (a0 == b0) <;> cases h1 : (a1 == b1) <;> simp [go_sem, h0, h1]
theorem neS_56 {x y : Operand} (a0 a1 b0 b1 : Int) (w : World) : ((do eqGuard .neq 56 x y (.agg #[.int .i64 a0, .int .i64 a1]) (.agg #[.int .i64 b0, .int .i64 b1]); binOp .neq 56 (.agg #[.int .i64 a0, .int .i64 a1]) (.agg #[.int .i64 b0, .int .i64 b1]) : Sem Value)).run Try.prog w = .ok (.bool (!((a0 == b0) && (a1 == b1)))) w := by
  cases h0 : (a0 == b0) <;> cases h1 : (a1 == b1) <;> simp [go_sem, h0, h1]
end Go.Proofs.Ytkfncibmfcdokaa
