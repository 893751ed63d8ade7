import Derived.Test.YtpmamdadcmcbeaaDoorW14
namespace Go.Proofs.YtpmamdadcmcbeaaDoor
open Go.RowKit Go.Sort Cam
set_option linter.unusedVariables false

theorem FirstAt.drew {w : World} (h : FirstAt w) : FirstAt w.drew := h.kept (bl_drewN (bl_refl _) 1)
theorem eq000 (W : World) : (binOp .eql 33 (.agg #[.int .i64 0, .int .i64 0, .int .i64 0]) (.agg #[.int .i64 0, .int .i64 0, .int .i64 0])).run Tryd.prog W = .ok (.bool true) W := by kernel_rfl

end Go.Proofs.YtpmamdadcmcbeaaDoor
