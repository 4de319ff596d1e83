/-
  Proved here: uint8 is an integer kind of one byte in this program.
-/
import Derived.Test.YtjaffcbadgpolaaRows
import Derived.Test.YtjaffcbadgpolaaOwn
namespace Go.Proofs.Ytjaffcbadgpolaa
open Go.RowKit Go.Cul
theorem isU8 : IS Try.prog .u8 25 5 1 := ⟨Try.underlying25, Try.underlying5, info_parts (by kernel_rfl)⟩
end Go.Proofs.Ytjaffcbadgpolaa
