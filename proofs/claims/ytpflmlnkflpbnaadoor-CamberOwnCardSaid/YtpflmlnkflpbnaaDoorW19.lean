import Derived.Test.YtpflmlnkflpbnaaDoorW18
namespace Go.Proofs.YtpflmlnkflpbnaaDoor
open Go.RowKit Go.Sort Cam
set_option linter.unusedVariables false

theorem eqSelf (p q r : Int) (W : World) : (binOp .eql 32 (.agg #[.int .i64 p, .int .i64 q, .int .i64 r]) (.agg #[.int .i64 p, .int .i64 q, .int .i64 r])).run Tryd.prog W = .ok (.bool true) W := by
  rw [eqA]; simp

end Go.Proofs.YtpflmlnkflpbnaaDoor
