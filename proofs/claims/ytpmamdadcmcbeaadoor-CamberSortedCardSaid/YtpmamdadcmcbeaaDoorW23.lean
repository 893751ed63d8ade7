import Derived.Test.YtpmamdadcmcbeaaDoorW17
namespace Go.Proofs.YtpmamdadcmcbeaaDoor
open Go.RowKit Go.Sort Cam
set_option linter.unusedVariables false

def twoB (a b : UInt8) (s : ByteArray) : Bool := s.data.toList.all fun c => c == a || c == b

end Go.Proofs.YtpmamdadcmcbeaaDoor
