import Derived.Test.YtpmamdadcmcbeaaDoorW14
namespace Go.Proofs.YtpmamdadcmcbeaaDoor
open Go.RowKit Go.Sort Cam
set_option linter.unusedVariables false

end Go.Proofs.YtpmamdadcmcbeaaDoor
