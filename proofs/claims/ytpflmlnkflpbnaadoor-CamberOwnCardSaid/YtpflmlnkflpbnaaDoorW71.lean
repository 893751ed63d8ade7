/-
  CamberAlls: for any int, All returns all triples with z at most it, or ErrArg.
-/
import Derived.Test.YtpflmlnkflpbnaaDoorW68
import Derived.Test.YtpflmlnkflpbnaaDoorW70
import Derived.Test.YtpflmlnkflpbnaaDoorW14
namespace Go.Proofs.YtpflmlnkflpbnaaDoor
open Go.RowKit Go.Sort Cam
set_option linter.unusedVariables false
set_option linter.unusedSimpArgs false

end Go.Proofs.YtpflmlnkflpbnaaDoor
