/-
  No cell of these rows narrows 'for every input' (looked for: loops, veiled, ifaces, maps, wideKeys, modest, calm, conditions, laid).
  DERIVED. THE GIVEN ROWS OF THIS SEAT. 4 by the template 'for every input the law returns true; each argument reads behind the call as it read before'; 0 by the template 'total and deterministic' (their statements: YtmcaknmdalbpoaaTotals.lean).
  GIVEN WITH THE SEED: the statements are not yours to turn. If you find one false, say at which input.
  Laid BY PROGRAM, IN A SANDBOX (cutbox-rows.mjs): the forced cells as the released guide's own fill.sh prints them over the translation 97d13ff7393a3894… (all of the seat's roots in one cut). By AI agents, Wed Nov 11 2026. No macro, syntax, notation, axiom, sorry.
-/
import Derived.Test.YtmcaknmdalbpoaaChecked
import GoSem.Claim
import GoSem.ClaimJoined
import GoSem.ClaimMapViews
import Derived.JoinedTies
import Derived.KernelRfl
namespace Go.Proofs.Ytmcaknmdalbpoaa
/- THE CELL 'sum', in the pinned program and in every row, IS THE sha256 OF THE DUMP (.gsa) THAT YtmcaknmdalbpoaaProg.lean LOADS. Nothing in Lean hashes anything: it is a label: what it is worth is what the hold of that sum in a sandbox is worth. -/
noncomputable def Try.pinned : Pinned := { name := "ytmcaknmdalbpoaa", sum := "97d13ff7393a389466d968ac22b0241e378c29347aee7a9c41472ccd9e4b3a24", checked := Try.checked }
namespace Rows
def none {H : Type} : Left H := { results := [], args := [] }

/-- 'culvertlaw25.ShiftBytes': WHATEVER THE INPUT: true; the input reads as it did. -/
def shiftBytesSpec : ChangeSpec := { name := "shiftBytes", fn := fun _ => fun
  | [d1, d2] => { results := [.lit (.bool true)], args := [d1, d2] }
  | _ => none }
def shiftBytesRow : OpenClaim := { program := "ytmcaknmdalbpoaa", sum := "97d13ff7393a389466d968ac22b0241e378c29347aee7a9c41472ccd9e4b3a24", func := "culvert/culvertlaw25.ShiftBytes", spec := "shiftBytes", unfollowed := true, recurses := true, apart := false }
def ShiftBytesSaid : Prop := shiftBytesRow.holds Try.pinned (OpenSpec.ofChange shiftBytesSpec)

/-- ITS FALSE NEIGHBOUR: 'it returns false'. Refute it at one input. -/
def shiftBytesWrong : ChangeSpec := { name := "shiftBytes", fn := fun _ => fun
  | [d1, d2] => { results := [.lit (.bool false)], args := [d1, d2] }
  | _ => none }
def ShiftBytesWrongFalsely : Prop := shiftBytesRow.holds Try.pinned (OpenSpec.ofChange shiftBytesWrong)

/-- 'culvertlaw25.ShiftWindows': WHATEVER THE INPUT: true; the input reads as it did. -/
def shiftWindowsSpec : ChangeSpec := { name := "shiftWindows", fn := fun _ => fun
  | [d1, d2, d3] => { results := [.lit (.bool true)], args := [d1, d2, d3] }
  | _ => none }
def shiftWindowsRow : OpenClaim := { program := "ytmcaknmdalbpoaa", sum := "97d13ff7393a389466d968ac22b0241e378c29347aee7a9c41472ccd9e4b3a24", func := "culvert/culvertlaw25.ShiftWindows", spec := "shiftWindows", unfollowed := true, recurses := true, apart := false }
def ShiftWindowsSaid : Prop := shiftWindowsRow.holds Try.pinned (OpenSpec.ofChange shiftWindowsSpec)

/-- ITS FALSE NEIGHBOUR: 'it returns false'. Refute it at one input. -/
def shiftWindowsWrong : ChangeSpec := { name := "shiftWindows", fn := fun _ => fun
  | [d1, d2, d3] => { results := [.lit (.bool false)], args := [d1, d2, d3] }
  | _ => none }
def ShiftWindowsWrongFalsely : Prop := shiftWindowsRow.holds Try.pinned (OpenSpec.ofChange shiftWindowsWrong)

/-- 'culvertlaw25.ShiftKnown': WHATEVER THE INPUT: true; the input reads as it did. -/
def shiftKnownSpec : ChangeSpec := { name := "shiftKnown", fn := fun _ => fun
  | [] => { results := [.lit (.bool true)], args := [] }
  | _ => none }
def shiftKnownRow : OpenClaim := { program := "ytmcaknmdalbpoaa", sum := "97d13ff7393a389466d968ac22b0241e378c29347aee7a9c41472ccd9e4b3a24", func := "culvert/culvertlaw25.ShiftKnown", spec := "shiftKnown", unfollowed := true, recurses := true, apart := false }
def ShiftKnownSaid : Prop := shiftKnownRow.holds Try.pinned (OpenSpec.ofChange shiftKnownSpec)

/-- ITS FALSE NEIGHBOUR: 'it returns false'. Refute it at one input. -/
def shiftKnownWrong : ChangeSpec := { name := "shiftKnown", fn := fun _ => fun
  | [] => { results := [.lit (.bool false)], args := [] }
  | _ => none }
def ShiftKnownWrongFalsely : Prop := shiftKnownRow.holds Try.pinned (OpenSpec.ofChange shiftKnownWrong)

/-- 'culvertlaw25.ShiftBack': WHATEVER THE INPUT: true; the input reads as it did. -/
def shiftBackSpec : ChangeSpec := { name := "shiftBack", fn := fun _ => fun
  | [d1, d2, d3] => { results := [.lit (.bool true)], args := [d1, d2, d3] }
  | _ => none }
def shiftBackRow : OpenClaim := { program := "ytmcaknmdalbpoaa", sum := "97d13ff7393a389466d968ac22b0241e378c29347aee7a9c41472ccd9e4b3a24", func := "culvert/culvertlaw25.ShiftBack", spec := "shiftBack", unfollowed := true, recurses := true, apart := false }
def ShiftBackSaid : Prop := shiftBackRow.holds Try.pinned (OpenSpec.ofChange shiftBackSpec)

/-- ITS FALSE NEIGHBOUR: 'it returns false'. Refute it at one input. -/
def shiftBackWrong : ChangeSpec := { name := "shiftBack", fn := fun _ => fun
  | [d1, d2, d3] => { results := [.lit (.bool false)], args := [d1, d2, d3] }
  | _ => none }
def ShiftBackWrongFalsely : Prop := shiftBackRow.holds Try.pinned (OpenSpec.ofChange shiftBackWrong)

/- THE SECOND FORM. 'bulk': how many values and letters a reading holds, each counted each time it is reached (what is shared counts as often as it is met; a slice's spare places count too). A statement '..UptoSaid' is the law's where the arguments, and the package variables that the reading takes, are together of bulk at most 1048576: NARROWER than '..Said'. Prove '..Said' where nothing that the law and all that it calls make is longer than what came in: it says more and counts as full. Else prove '..UptoSaid'. A law counts once. -/
mutual
def uptoBulk {H : Type} : DataW H → Nat
  | .lit (.string bytes) => bytes.length + 1
  | .lit _ => 1
  | .nil => 1
  | .ptr d => uptoBulk d + 1
  | .slice elems spare => uptoBulkAll elems + uptoBulkAll spare + 1
  | .agg parts => uptoBulkAll parts + 1
  | .iface _ d => uptoBulk d + 1
  | .map entries => uptoBulkEntries entries + 1
  | .held _ => 1
def uptoBulkAll {H : Type} : List (DataW H) → Nat
  | [] => 0
  | d :: r => uptoBulk d + uptoBulkAll r
def uptoBulkEntries {H : Type} : List (Lit × DataW H) → Nat
  | [] => 0
  | x :: r => uptoBulkEntry x + uptoBulkEntries r
def uptoBulkEntry {H : Type} : Lit × DataW H → Nat
  | (.string bytes, d) => bytes.length + uptoBulk d + 1
  | (_, d) => uptoBulk d + 1
 end
def uptoSmall : (H : Type) → List (DataW H) → Bool := fun _ ds => decide (uptoBulkAll ds ≤ 1048576)
def OpenSpec.upto (s : _root_.Go.ChangeSpec) : _root_.Go.OpenSpec := { _root_.Go.OpenSpec.ofChange s with cond := some uptoSmall }

/-- 'culvertlaw25.ShiftBytes', WHERE WHAT IT READS IS OF BULK AT MOST 1048576: true; the input reads as it did. -/
def shiftBytesUptoRow : OpenClaim := { program := "ytmcaknmdalbpoaa", sum := "97d13ff7393a389466d968ac22b0241e378c29347aee7a9c41472ccd9e4b3a24", func := "culvert/culvertlaw25.ShiftBytes", spec := "shiftBytes", unfollowed := true, recurses := true, apart := false, narrowed := true }
def ShiftBytesUptoSaid : Prop := shiftBytesUptoRow.holds Try.pinned (OpenSpec.upto shiftBytesSpec)

/-- 'culvertlaw25.ShiftWindows', WHERE WHAT IT READS IS OF BULK AT MOST 1048576: true; the input reads as it did. -/
def shiftWindowsUptoRow : OpenClaim := { program := "ytmcaknmdalbpoaa", sum := "97d13ff7393a389466d968ac22b0241e378c29347aee7a9c41472ccd9e4b3a24", func := "culvert/culvertlaw25.ShiftWindows", spec := "shiftWindows", unfollowed := true, recurses := true, apart := false, narrowed := true }
def ShiftWindowsUptoSaid : Prop := shiftWindowsUptoRow.holds Try.pinned (OpenSpec.upto shiftWindowsSpec)

/-- 'culvertlaw25.ShiftKnown', WHERE WHAT IT READS IS OF BULK AT MOST 1048576: true; the input reads as it did. -/
def shiftKnownUptoRow : OpenClaim := { program := "ytmcaknmdalbpoaa", sum := "97d13ff7393a389466d968ac22b0241e378c29347aee7a9c41472ccd9e4b3a24", func := "culvert/culvertlaw25.ShiftKnown", spec := "shiftKnown", unfollowed := true, recurses := true, apart := false, narrowed := true }
def ShiftKnownUptoSaid : Prop := shiftKnownUptoRow.holds Try.pinned (OpenSpec.upto shiftKnownSpec)

/-- 'culvertlaw25.ShiftBack', WHERE WHAT IT READS IS OF BULK AT MOST 1048576: true; the input reads as it did. -/
def shiftBackUptoRow : OpenClaim := { program := "ytmcaknmdalbpoaa", sum := "97d13ff7393a389466d968ac22b0241e378c29347aee7a9c41472ccd9e4b3a24", func := "culvert/culvertlaw25.ShiftBack", spec := "shiftBack", unfollowed := true, recurses := true, apart := false, narrowed := true }
def ShiftBackUptoSaid : Prop := shiftBackUptoRow.holds Try.pinned (OpenSpec.upto shiftBackSpec)

end Rows
end Go.Proofs.Ytmcaknmdalbpoaa
