/-
  The reference: IsLoop.
-/
import Derived.Test.YtnamafakjkcmjaaMJ
import Derived.Test.YtnamafakjkcmjaaMK
namespace Go.Proofs.Ytnamafakjkcmjaa
open Go.RowKit Go.Shelf
set_option linter.unusedVariables false
set_option linter.unusedSimpArgs false

def strV : Value → ByteArray
  | .string s => s
  | _ => ⟨#[]⟩
end Go.Proofs.Ytnamafakjkcmjaa
