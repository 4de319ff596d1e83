/-
  No cell of these rows narrows 'for every input' (looked for: loops, veiled, ifaces, maps, wideKeys, modest, calm, conditions, laid).
  DERIVED. THE GIVEN ROWS OF THIS SEAT. 7 by the template 'for every input the law returns true; each argument reads behind the call as it read before'; 0 by the template 'total and deterministic' (their statements: YtckdcjheflgmdaaTotals.lean).
  GIVEN WITH THE SEED: the statements are not yours to turn. If you find one false, say at which input.
  Laid BY PROGRAM, IN A SANDBOX (cutbox-rows.mjs): the forced cells as the released guide's own fill.sh prints them over the translation c86d8ab0ccc7539f… (all of the seat's roots in one cut). By AI agents, Wed Nov 11 2026. No macro, syntax, notation, axiom, sorry.
-/
import Derived.Test.YtckdcjheflgmdaaChecked
import GoSem.Claim
import GoSem.ClaimJoined
import GoSem.ClaimMapViews
import Derived.JoinedTies
import Derived.KernelRfl
namespace Go.Proofs.Ytckdcjheflgmdaa
/- THE CELL 'sum', in the pinned program and in every row, IS THE sha256 OF THE DUMP (.gsa) THAT YtckdcjheflgmdaaProg.lean LOADS. Nothing in Lean hashes anything: it is a label: what it is worth is what the hold of that sum in a sandbox is worth. -/
noncomputable def Try.pinned : Pinned := { name := "ytckdcjheflgmdaa", sum := "c86d8ab0ccc7539f2d9c7fe5dbd8389137bf122c89c626150f56f501167724b3", checked := Try.checked }
namespace Rows
def none {H : Type} : Left H := { results := [], args := [] }

/-- 'culvertlaw05.OptsParse': WHATEVER THE INPUT: true; the input reads as it did. -/
def optsParseSpec : ChangeSpec := { name := "optsParse", fn := fun _ => fun
  | [d] => { results := [.lit (.bool true)], args := [d] }
  | _ => none }
def optsParseRow : OpenClaim := { program := "ytckdcjheflgmdaa", sum := "c86d8ab0ccc7539f2d9c7fe5dbd8389137bf122c89c626150f56f501167724b3", func := "culvert/culvertlaw05.OptsParse", spec := "optsParse", unfollowed := true, recurses := true, apart := false }
def OptsParseSaid : Prop := optsParseRow.holds Try.pinned (OpenSpec.ofChange optsParseSpec)

/-- ITS FALSE NEIGHBOUR: 'it returns false'. Refute it at one input. -/
def optsParseWrong : ChangeSpec := { name := "optsParse", fn := fun _ => fun
  | [d] => { results := [.lit (.bool false)], args := [d] }
  | _ => none }
def OptsParseWrongFalsely : Prop := optsParseRow.holds Try.pinned (OpenSpec.ofChange optsParseWrong)

/-- 'culvertlaw05.OptsBack': WHATEVER THE INPUT: true; the input reads as it did. -/
def optsBackSpec : ChangeSpec := { name := "optsBack", fn := fun _ => fun
  | [d1, d2] => { results := [.lit (.bool true)], args := [d1, d2] }
  | _ => none }
def optsBackRow : OpenClaim := { program := "ytckdcjheflgmdaa", sum := "c86d8ab0ccc7539f2d9c7fe5dbd8389137bf122c89c626150f56f501167724b3", func := "culvert/culvertlaw05.OptsBack", spec := "optsBack", unfollowed := true, recurses := true, apart := false }
def OptsBackSaid : Prop := optsBackRow.holds Try.pinned (OpenSpec.ofChange optsBackSpec)

/-- ITS FALSE NEIGHBOUR: 'it returns false'. Refute it at one input. -/
def optsBackWrong : ChangeSpec := { name := "optsBack", fn := fun _ => fun
  | [d1, d2] => { results := [.lit (.bool false)], args := [d1, d2] }
  | _ => none }
def OptsBackWrongFalsely : Prop := optsBackRow.holds Try.pinned (OpenSpec.ofChange optsBackWrong)

/-- 'culvertlaw05.OptsKnown': WHATEVER THE INPUT: true; the input reads as it did. -/
def optsKnownSpec : ChangeSpec := { name := "optsKnown", fn := fun _ => fun
  | [] => { results := [.lit (.bool true)], args := [] }
  | _ => none }
def optsKnownRow : OpenClaim := { program := "ytckdcjheflgmdaa", sum := "c86d8ab0ccc7539f2d9c7fe5dbd8389137bf122c89c626150f56f501167724b3", func := "culvert/culvertlaw05.OptsKnown", spec := "optsKnown", unfollowed := true, recurses := true, apart := false }
def OptsKnownSaid : Prop := optsKnownRow.holds Try.pinned (OpenSpec.ofChange optsKnownSpec)

/-- ITS FALSE NEIGHBOUR: 'it returns false'. Refute it at one input. -/
def optsKnownWrong : ChangeSpec := { name := "optsKnown", fn := fun _ => fun
  | [] => { results := [.lit (.bool false)], args := [] }
  | _ => none }
def OptsKnownWrongFalsely : Prop := optsKnownRow.holds Try.pinned (OpenSpec.ofChange optsKnownWrong)

/-- 'culvertlaw05.OptsPuts': WHATEVER THE INPUT: true; the input reads as it did. -/
def optsPutsSpec : ChangeSpec := { name := "optsPuts", fn := fun _ => fun
  | [d1, d2, d3] => { results := [.lit (.bool true)], args := [d1, d2, d3] }
  | _ => none }
def optsPutsRow : OpenClaim := { program := "ytckdcjheflgmdaa", sum := "c86d8ab0ccc7539f2d9c7fe5dbd8389137bf122c89c626150f56f501167724b3", func := "culvert/culvertlaw05.OptsPuts", spec := "optsPuts", unfollowed := true, recurses := true, apart := false }
def OptsPutsSaid : Prop := optsPutsRow.holds Try.pinned (OpenSpec.ofChange optsPutsSpec)

/-- ITS FALSE NEIGHBOUR: 'it returns false'. Refute it at one input. -/
def optsPutsWrong : ChangeSpec := { name := "optsPuts", fn := fun _ => fun
  | [d1, d2, d3] => { results := [.lit (.bool false)], args := [d1, d2, d3] }
  | _ => none }
def OptsPutsWrongFalsely : Prop := optsPutsRow.holds Try.pinned (OpenSpec.ofChange optsPutsWrong)

/-- 'culvertlaw05.OptsFinds': WHATEVER THE INPUT: true; the input reads as it did. -/
def optsFindsSpec : ChangeSpec := { name := "optsFinds", fn := fun _ => fun
  | [d1, d2, d3] => { results := [.lit (.bool true)], args := [d1, d2, d3] }
  | _ => none }
def optsFindsRow : OpenClaim := { program := "ytckdcjheflgmdaa", sum := "c86d8ab0ccc7539f2d9c7fe5dbd8389137bf122c89c626150f56f501167724b3", func := "culvert/culvertlaw05.OptsFinds", spec := "optsFinds", unfollowed := true, recurses := true, apart := false }
def OptsFindsSaid : Prop := optsFindsRow.holds Try.pinned (OpenSpec.ofChange optsFindsSpec)

/-- ITS FALSE NEIGHBOUR: 'it returns false'. Refute it at one input. -/
def optsFindsWrong : ChangeSpec := { name := "optsFinds", fn := fun _ => fun
  | [d1, d2, d3] => { results := [.lit (.bool false)], args := [d1, d2, d3] }
  | _ => none }
def OptsFindsWrongFalsely : Prop := optsFindsRow.holds Try.pinned (OpenSpec.ofChange optsFindsWrong)

/-- 'culvertlaw05.OptsFound': WHATEVER THE INPUT: true; the input reads as it did. -/
def optsFoundSpec : ChangeSpec := { name := "optsFound", fn := fun _ => fun
  | [d1, d2, d3] => { results := [.lit (.bool true)], args := [d1, d2, d3] }
  | _ => none }
def optsFoundRow : OpenClaim := { program := "ytckdcjheflgmdaa", sum := "c86d8ab0ccc7539f2d9c7fe5dbd8389137bf122c89c626150f56f501167724b3", func := "culvert/culvertlaw05.OptsFound", spec := "optsFound", unfollowed := true, recurses := true, apart := false }
def OptsFoundSaid : Prop := optsFoundRow.holds Try.pinned (OpenSpec.ofChange optsFoundSpec)

/-- ITS FALSE NEIGHBOUR: 'it returns false'. Refute it at one input. -/
def optsFoundWrong : ChangeSpec := { name := "optsFound", fn := fun _ => fun
  | [d1, d2, d3] => { results := [.lit (.bool false)], args := [d1, d2, d3] }
  | _ => none }
def OptsFoundWrongFalsely : Prop := optsFoundRow.holds Try.pinned (OpenSpec.ofChange optsFoundWrong)

/-- 'culvertlaw05.OptsParts': WHATEVER THE INPUT: true; the input reads as it did. -/
def optsPartsSpec : ChangeSpec := { name := "optsParts", fn := fun _ => fun
  | [d1, d2, d3] => { results := [.lit (.bool true)], args := [d1, d2, d3] }
  | _ => none }
def optsPartsRow : OpenClaim := { program := "ytckdcjheflgmdaa", sum := "c86d8ab0ccc7539f2d9c7fe5dbd8389137bf122c89c626150f56f501167724b3", func := "culvert/culvertlaw05.OptsParts", spec := "optsParts", inPlace := ["internal/bytealg.MakeNoZero"], unfollowed := true, recurses := true, apart := false }
def OptsPartsSaid : Prop := optsPartsRow.holds Try.pinned (OpenSpec.ofChange optsPartsSpec)

/-- ITS FALSE NEIGHBOUR: 'it returns false'. Refute it at one input. -/
def optsPartsWrong : ChangeSpec := { name := "optsParts", fn := fun _ => fun
  | [d1, d2, d3] => { results := [.lit (.bool false)], args := [d1, d2, d3] }
  | _ => none }
def OptsPartsWrongFalsely : Prop := optsPartsRow.holds Try.pinned (OpenSpec.ofChange optsPartsWrong)

/- THE SECOND FORM. 'bulk': how many values and letters a reading holds, each counted each time it is reached (what is shared counts as often as it is met; a slice's spare places count too). A statement '..UptoSaid' is the law's where the arguments, and the package variables that the reading takes, are together of bulk at most 1048576: NARROWER than '..Said'. Prove '..Said' where nothing that the law and all that it calls make is longer than what came in: it says more and counts as full. Else prove '..UptoSaid'. A law counts once. -/
mutual
def uptoBulk {H : Type} : DataW H → Nat
  | .lit (.string bytes) => bytes.length + 1
  | .lit _ => 1
  | .nil => 1
  | .ptr d => uptoBulk d + 1
  | .slice elems spare => uptoBulkAll elems + uptoBulkAll spare + 1
  | .agg parts => uptoBulkAll parts + 1
  | .iface _ d => uptoBulk d + 1
  | .map entries => uptoBulkEntries entries + 1
  | .held _ => 1
def uptoBulkAll {H : Type} : List (DataW H) → Nat
  | [] => 0
  | d :: r => uptoBulk d + uptoBulkAll r
def uptoBulkEntries {H : Type} : List (Lit × DataW H) → Nat
  | [] => 0
  | x :: r => uptoBulkEntry x + uptoBulkEntries r
def uptoBulkEntry {H : Type} : Lit × DataW H → Nat
  | (.string bytes, d) => bytes.length + uptoBulk d + 1
  | (_, d) => uptoBulk d + 1
 end
def uptoSmall : (H : Type) → List (DataW H) → Bool := fun _ ds => decide (uptoBulkAll ds ≤ 1048576)
def OpenSpec.upto (s : _root_.Go.ChangeSpec) : _root_.Go.OpenSpec := { _root_.Go.OpenSpec.ofChange s with cond := some uptoSmall }

/-- 'culvertlaw05.OptsParse', WHERE WHAT IT READS IS OF BULK AT MOST 1048576: true; the input reads as it did. -/
def optsParseUptoRow : OpenClaim := { program := "ytckdcjheflgmdaa", sum := "c86d8ab0ccc7539f2d9c7fe5dbd8389137bf122c89c626150f56f501167724b3", func := "culvert/culvertlaw05.OptsParse", spec := "optsParse", unfollowed := true, recurses := true, apart := false, narrowed := true }
def OptsParseUptoSaid : Prop := optsParseUptoRow.holds Try.pinned (OpenSpec.upto optsParseSpec)

/-- 'culvertlaw05.OptsBack', WHERE WHAT IT READS IS OF BULK AT MOST 1048576: true; the input reads as it did. -/
def optsBackUptoRow : OpenClaim := { program := "ytckdcjheflgmdaa", sum := "c86d8ab0ccc7539f2d9c7fe5dbd8389137bf122c89c626150f56f501167724b3", func := "culvert/culvertlaw05.OptsBack", spec := "optsBack", unfollowed := true, recurses := true, apart := false, narrowed := true }
def OptsBackUptoSaid : Prop := optsBackUptoRow.holds Try.pinned (OpenSpec.upto optsBackSpec)

/-- 'culvertlaw05.OptsKnown', WHERE WHAT IT READS IS OF BULK AT MOST 1048576: true; the input reads as it did. -/
def optsKnownUptoRow : OpenClaim := { program := "ytckdcjheflgmdaa", sum := "c86d8ab0ccc7539f2d9c7fe5dbd8389137bf122c89c626150f56f501167724b3", func := "culvert/culvertlaw05.OptsKnown", spec := "optsKnown", unfollowed := true, recurses := true, apart := false, narrowed := true }
def OptsKnownUptoSaid : Prop := optsKnownUptoRow.holds Try.pinned (OpenSpec.upto optsKnownSpec)

/-- 'culvertlaw05.OptsPuts', WHERE WHAT IT READS IS OF BULK AT MOST 1048576: true; the input reads as it did. -/
def optsPutsUptoRow : OpenClaim := { program := "ytckdcjheflgmdaa", sum := "c86d8ab0ccc7539f2d9c7fe5dbd8389137bf122c89c626150f56f501167724b3", func := "culvert/culvertlaw05.OptsPuts", spec := "optsPuts", unfollowed := true, recurses := true, apart := false, narrowed := true }
def OptsPutsUptoSaid : Prop := optsPutsUptoRow.holds Try.pinned (OpenSpec.upto optsPutsSpec)

/-- 'culvertlaw05.OptsFinds', WHERE WHAT IT READS IS OF BULK AT MOST 1048576: true; the input reads as it did. -/
def optsFindsUptoRow : OpenClaim := { program := "ytckdcjheflgmdaa", sum := "c86d8ab0ccc7539f2d9c7fe5dbd8389137bf122c89c626150f56f501167724b3", func := "culvert/culvertlaw05.OptsFinds", spec := "optsFinds", unfollowed := true, recurses := true, apart := false, narrowed := true }
def OptsFindsUptoSaid : Prop := optsFindsUptoRow.holds Try.pinned (OpenSpec.upto optsFindsSpec)

/-- 'culvertlaw05.OptsFound', WHERE WHAT IT READS IS OF BULK AT MOST 1048576: true; the input reads as it did. -/
def optsFoundUptoRow : OpenClaim := { program := "ytckdcjheflgmdaa", sum := "c86d8ab0ccc7539f2d9c7fe5dbd8389137bf122c89c626150f56f501167724b3", func := "culvert/culvertlaw05.OptsFound", spec := "optsFound", unfollowed := true, recurses := true, apart := false, narrowed := true }
def OptsFoundUptoSaid : Prop := optsFoundUptoRow.holds Try.pinned (OpenSpec.upto optsFoundSpec)

/-- 'culvertlaw05.OptsParts', WHERE WHAT IT READS IS OF BULK AT MOST 1048576: true; the input reads as it did. -/
def optsPartsUptoRow : OpenClaim := { program := "ytckdcjheflgmdaa", sum := "c86d8ab0ccc7539f2d9c7fe5dbd8389137bf122c89c626150f56f501167724b3", func := "culvert/culvertlaw05.OptsParts", spec := "optsParts", inPlace := ["internal/bytealg.MakeNoZero"], unfollowed := true, recurses := true, apart := false, narrowed := true }
def OptsPartsUptoSaid : Prop := optsPartsUptoRow.holds Try.pinned (OpenSpec.upto optsPartsSpec)

end Rows
end Go.Proofs.Ytckdcjheflgmdaa
