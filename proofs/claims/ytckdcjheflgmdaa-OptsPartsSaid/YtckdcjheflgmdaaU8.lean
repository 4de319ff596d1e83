/-
  Proved here: uint8 is an integer kind of one byte in this program.
-/
import Derived.Test.YtckdcjheflgmdaaRows
import Derived.Test.YtckdcjheflgmdaaOwn
namespace Go.Proofs.Ytckdcjheflgmdaa
set_option maxRecDepth 16000
open Go.RowKit Go.Cul
theorem isU8 : IS Try.prog .u8 22 5 1 := ⟨Try.underlying22, Try.underlying5, info_parts (by kernel_rfl)⟩
end Go.Proofs.Ytckdcjheflgmdaa
