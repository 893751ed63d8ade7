import Derived.Test.YtpmamdadcmcbeaaDoorW26
import Derived.Test.YtpmamdadcmcbeaaDoorW10
namespace Go.Proofs.YtpmamdadcmcbeaaDoor
open Go.RowKit Go.Sort Cam
set_option linter.unusedVariables false
set_option linter.unusedSimpArgs false

def errF (o : Option T3) : Int := match o with | some _ => 0 | none => 5

end Go.Proofs.YtpmamdadcmcbeaaDoor
