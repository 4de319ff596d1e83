/-
  Proved here: a slice of bytes turned into a string. Over any program.
-/
import Derived.Test.YtckdcjheflgmdaaOwn
namespace Go.Cul
open Go Go.RowKit
set_option linter.unusedVariables false

theorem run_conv_rd {P : Program} {src e dst : TypeId} (hs : P.underlying src = some (.slice e)) (he : P.underlying e = some (.int .u8)) (hd : P.underlying dst = some .string) {w : World} {v : Value} {l : List Int} (h : Rd .u8 w v l) :
    (convert src dst v).run P w = .ok (.string (strOfNums l)) w := by
  obtain ⟨a, cap, rfl, h1, h2, h3⟩ := h
  rcases h3 with h3 | ⟨b, o, rfl, h3⟩
  · subst h3
    cases a with
    | none =>
      rw [List.length_nil, run_convert_bytes_nil _ _ _ hs he 0 cap _ hd]
      rfl
    | some ad =>
      rw [show ([] : List Int).length = ([] : List UInt8).length from rfl, run_convert_bytes_back w src dst e ad cap [] hs he hd (fun j hj => absurd hj (by simp))]
      rfl
  · exact run_convert_bytes_arg w src e hs he b o l.length cap l rfl h3 dst hd
end Go.Cul
