import Derived.Test.YtpflmlnkflpbnaaDoorW21
namespace Go.Proofs.YtpflmlnkflpbnaaDoor
open Go.RowKit Go.Sort Cam
set_option linter.unusedVariables false
set_option linter.unusedSimpArgs false

end Go.Proofs.YtpflmlnkflpbnaaDoor
