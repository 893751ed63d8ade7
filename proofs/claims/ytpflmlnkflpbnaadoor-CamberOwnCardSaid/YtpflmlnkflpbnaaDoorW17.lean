import Derived.Test.YtpflmlnkflpbnaaDoorW14
namespace Go.Proofs.YtpflmlnkflpbnaaDoor
open Go.RowKit Go.Sort Cam
set_option linter.unusedVariables false

theorem FirstAt.drew {w : World} (h : FirstAt w) : FirstAt w.drew := h.kept (bl_drewN (bl_refl _) 1)
theorem eq000 (W : World) : (binOp .eql 32 (.agg #[.int .i64 0, .int .i64 0, .int .i64 0]) (.agg #[.int .i64 0, .int .i64 0, .int .i64 0])).run Tryd.prog W = .ok (.bool true) W := by kernel_rfl

end Go.Proofs.YtpflmlnkflpbnaaDoor
