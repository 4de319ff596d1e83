/-
  No cell of these rows narrows 'for every input' (looked for: loops, veiled, ifaces, maps, wideKeys, modest, calm, conditions, laid).
  DERIVED. THE GIVEN ROWS OF THIS SEAT. 6 by the template 'for every input the law returns true; each argument reads behind the call as it read before'; 0 by the template 'total and deterministic' (their statements: YtjaffcbadgpolaaTotals.lean).
  GIVEN WITH THE SEED: the statements are not yours to turn. If you find one false, say at which input.
  Laid BY PROGRAM, IN A SANDBOX (cutbox-rows.mjs): the forced cells as the released guide's own fill.sh prints them over the translation 928097950bdf0741… (all of the seat's roots in one cut). By AI agents, Wed Nov 11 2026. No macro, syntax, notation, axiom, sorry.
-/
import Derived.Test.YtjaffcbadgpolaaChecked
import GoSem.Claim
import GoSem.ClaimJoined
import GoSem.ClaimMapViews
import Derived.JoinedTies
import Derived.KernelRfl
namespace Go.Proofs.Ytjaffcbadgpolaa
/- THE CELL 'sum', in the pinned program and in every row, IS THE sha256 OF THE DUMP (.gsa) THAT YtjaffcbadgpolaaProg.lean LOADS. Nothing in Lean hashes anything: it is a label: what it is worth is what the hold of that sum in a sandbox is worth. -/
noncomputable def Try.pinned : Pinned := { name := "ytjaffcbadgpolaa", sum := "928097950bdf0741bea797a75a63dc173a61659cd21269f1e63ac19ac55fbcfc", checked := Try.checked }
namespace Rows
def none {H : Type} : Left H := { results := [], args := [] }

/-- 'culvertlaw06.TcpFields': WHATEVER THE INPUT: true; the input reads as it did. -/
def tcpFieldsSpec : ChangeSpec := { name := "tcpFields", fn := fun _ => fun
  | [d1, d2, d3, d4] => { results := [.lit (.bool true)], args := [d1, d2, d3, d4] }
  | _ => none }
def tcpFieldsRow : OpenClaim := { program := "ytjaffcbadgpolaa", sum := "928097950bdf0741bea797a75a63dc173a61659cd21269f1e63ac19ac55fbcfc", func := "culvert/culvertlaw06.TcpFields", spec := "tcpFields", unfollowed := true, recurses := true, apart := false }
def TcpFieldsSaid : Prop := tcpFieldsRow.holds Try.pinned (OpenSpec.ofChange tcpFieldsSpec)

/-- ITS FALSE NEIGHBOUR: 'it returns false'. Refute it at one input. -/
def tcpFieldsWrong : ChangeSpec := { name := "tcpFields", fn := fun _ => fun
  | [d1, d2, d3, d4] => { results := [.lit (.bool false)], args := [d1, d2, d3, d4] }
  | _ => none }
def TcpFieldsWrongFalsely : Prop := tcpFieldsRow.holds Try.pinned (OpenSpec.ofChange tcpFieldsWrong)

/-- 'culvertlaw06.TcpKnown': WHATEVER THE INPUT: true; the input reads as it did. -/
def tcpKnownSpec : ChangeSpec := { name := "tcpKnown", fn := fun _ => fun
  | [] => { results := [.lit (.bool true)], args := [] }
  | _ => none }
def tcpKnownRow : OpenClaim := { program := "ytjaffcbadgpolaa", sum := "928097950bdf0741bea797a75a63dc173a61659cd21269f1e63ac19ac55fbcfc", func := "culvert/culvertlaw06.TcpKnown", spec := "tcpKnown", unfollowed := true, recurses := true, apart := false }
def TcpKnownSaid : Prop := tcpKnownRow.holds Try.pinned (OpenSpec.ofChange tcpKnownSpec)

/-- ITS FALSE NEIGHBOUR: 'it returns false'. Refute it at one input. -/
def tcpKnownWrong : ChangeSpec := { name := "tcpKnown", fn := fun _ => fun
  | [] => { results := [.lit (.bool false)], args := [] }
  | _ => none }
def TcpKnownWrongFalsely : Prop := tcpKnownRow.holds Try.pinned (OpenSpec.ofChange tcpKnownWrong)

/-- 'culvertlaw06.TcpTurned': WHATEVER THE INPUT: true; the input reads as it did. -/
def tcpTurnedSpec : ChangeSpec := { name := "tcpTurned", fn := fun _ => fun
  | [d1, d2, d3, d4] => { results := [.lit (.bool true)], args := [d1, d2, d3, d4] }
  | _ => none }
def tcpTurnedRow : OpenClaim := { program := "ytjaffcbadgpolaa", sum := "928097950bdf0741bea797a75a63dc173a61659cd21269f1e63ac19ac55fbcfc", func := "culvert/culvertlaw06.TcpTurned", spec := "tcpTurned", unfollowed := true, recurses := true, apart := false }
def TcpTurnedSaid : Prop := tcpTurnedRow.holds Try.pinned (OpenSpec.ofChange tcpTurnedSpec)

/-- ITS FALSE NEIGHBOUR: 'it returns false'. Refute it at one input. -/
def tcpTurnedWrong : ChangeSpec := { name := "tcpTurned", fn := fun _ => fun
  | [d1, d2, d3, d4] => { results := [.lit (.bool false)], args := [d1, d2, d3, d4] }
  | _ => none }
def TcpTurnedWrongFalsely : Prop := tcpTurnedRow.holds Try.pinned (OpenSpec.ofChange tcpTurnedWrong)

/-- 'culvertlaw06.TcpCalls': WHATEVER THE INPUT: true; the input reads as it did. -/
def tcpCallsSpec : ChangeSpec := { name := "tcpCalls", fn := fun _ => fun
  | [d1, d2, d3, d4, d5] => { results := [.lit (.bool true)], args := [d1, d2, d3, d4, d5] }
  | _ => none }
def tcpCallsRow : OpenClaim := { program := "ytjaffcbadgpolaa", sum := "928097950bdf0741bea797a75a63dc173a61659cd21269f1e63ac19ac55fbcfc", func := "culvert/culvertlaw06.TcpCalls", spec := "tcpCalls", unfollowed := true, recurses := true, apart := false }
def TcpCallsSaid : Prop := tcpCallsRow.holds Try.pinned (OpenSpec.ofChange tcpCallsSpec)

/-- ITS FALSE NEIGHBOUR: 'it returns false'. Refute it at one input. -/
def tcpCallsWrong : ChangeSpec := { name := "tcpCalls", fn := fun _ => fun
  | [d1, d2, d3, d4, d5] => { results := [.lit (.bool false)], args := [d1, d2, d3, d4, d5] }
  | _ => none }
def TcpCallsWrongFalsely : Prop := tcpCallsRow.holds Try.pinned (OpenSpec.ofChange tcpCallsWrong)

/-- 'culvertlaw06.TcpBack': WHATEVER THE INPUT: true; the input reads as it did. -/
def tcpBackSpec : ChangeSpec := { name := "tcpBack", fn := fun _ => fun
  | [d1, d2, d3, d4, d5, d6] => { results := [.lit (.bool true)], args := [d1, d2, d3, d4, d5, d6] }
  | _ => none }
def tcpBackRow : OpenClaim := { program := "ytjaffcbadgpolaa", sum := "928097950bdf0741bea797a75a63dc173a61659cd21269f1e63ac19ac55fbcfc", func := "culvert/culvertlaw06.TcpBack", spec := "tcpBack", unfollowed := true, recurses := true, apart := false }
def TcpBackSaid : Prop := tcpBackRow.holds Try.pinned (OpenSpec.ofChange tcpBackSpec)

/-- ITS FALSE NEIGHBOUR: 'it returns false'. Refute it at one input. -/
def tcpBackWrong : ChangeSpec := { name := "tcpBack", fn := fun _ => fun
  | [d1, d2, d3, d4, d5, d6] => { results := [.lit (.bool false)], args := [d1, d2, d3, d4, d5, d6] }
  | _ => none }
def TcpBackWrongFalsely : Prop := tcpBackRow.holds Try.pinned (OpenSpec.ofChange tcpBackWrong)

/-- 'culvertlaw06.TcpParts': WHATEVER THE INPUT: true; the input reads as it did. -/
def tcpPartsSpec : ChangeSpec := { name := "tcpParts", fn := fun _ => fun
  | [d1, d2, d3, d4] => { results := [.lit (.bool true)], args := [d1, d2, d3, d4] }
  | _ => none }
def tcpPartsRow : OpenClaim := { program := "ytjaffcbadgpolaa", sum := "928097950bdf0741bea797a75a63dc173a61659cd21269f1e63ac19ac55fbcfc", func := "culvert/culvertlaw06.TcpParts", spec := "tcpParts", unfollowed := true, recurses := true, apart := false }
def TcpPartsSaid : Prop := tcpPartsRow.holds Try.pinned (OpenSpec.ofChange tcpPartsSpec)

/-- ITS FALSE NEIGHBOUR: 'it returns false'. Refute it at one input. -/
def tcpPartsWrong : ChangeSpec := { name := "tcpParts", fn := fun _ => fun
  | [d1, d2, d3, d4] => { results := [.lit (.bool false)], args := [d1, d2, d3, d4] }
  | _ => none }
def TcpPartsWrongFalsely : Prop := tcpPartsRow.holds Try.pinned (OpenSpec.ofChange tcpPartsWrong)

/- THE SECOND FORM. 'bulk': how many values and letters a reading holds, each counted each time it is reached (what is shared counts as often as it is met; a slice's spare places count too). A statement '..UptoSaid' is the law's where the arguments, and the package variables that the reading takes, are together of bulk at most 1048576: NARROWER than '..Said'. Prove '..Said' where nothing that the law and all that it calls make is longer than what came in: it says more and counts as full. Else prove '..UptoSaid'. A law counts once. -/
mutual
def uptoBulk {H : Type} : DataW H → Nat
  | .lit (.string bytes) => bytes.length + 1
  | .lit _ => 1
  | .nil => 1
  | .ptr d => uptoBulk d + 1
  | .slice elems spare => uptoBulkAll elems + uptoBulkAll spare + 1
  | .agg parts => uptoBulkAll parts + 1
  | .iface _ d => uptoBulk d + 1
  | .map entries => uptoBulkEntries entries + 1
  | .held _ => 1
def uptoBulkAll {H : Type} : List (DataW H) → Nat
  | [] => 0
  | d :: r => uptoBulk d + uptoBulkAll r
def uptoBulkEntries {H : Type} : List (Lit × DataW H) → Nat
  | [] => 0
  | x :: r => uptoBulkEntry x + uptoBulkEntries r
def uptoBulkEntry {H : Type} : Lit × DataW H → Nat
  | (.string bytes, d) => bytes.length + uptoBulk d + 1
  | (_, d) => uptoBulk d + 1
 end
def uptoSmall : (H : Type) → List (DataW H) → Bool := fun _ ds => decide (uptoBulkAll ds ≤ 1048576)
def OpenSpec.upto (s : _root_.Go.ChangeSpec) : _root_.Go.OpenSpec := { _root_.Go.OpenSpec.ofChange s with cond := some uptoSmall }

/-- 'culvertlaw06.TcpFields', WHERE WHAT IT READS IS OF BULK AT MOST 1048576: true; the input reads as it did. -/
def tcpFieldsUptoRow : OpenClaim := { program := "ytjaffcbadgpolaa", sum := "928097950bdf0741bea797a75a63dc173a61659cd21269f1e63ac19ac55fbcfc", func := "culvert/culvertlaw06.TcpFields", spec := "tcpFields", unfollowed := true, recurses := true, apart := false, narrowed := true }
def TcpFieldsUptoSaid : Prop := tcpFieldsUptoRow.holds Try.pinned (OpenSpec.upto tcpFieldsSpec)

/-- 'culvertlaw06.TcpKnown', WHERE WHAT IT READS IS OF BULK AT MOST 1048576: true; the input reads as it did. -/
def tcpKnownUptoRow : OpenClaim := { program := "ytjaffcbadgpolaa", sum := "928097950bdf0741bea797a75a63dc173a61659cd21269f1e63ac19ac55fbcfc", func := "culvert/culvertlaw06.TcpKnown", spec := "tcpKnown", unfollowed := true, recurses := true, apart := false, narrowed := true }
def TcpKnownUptoSaid : Prop := tcpKnownUptoRow.holds Try.pinned (OpenSpec.upto tcpKnownSpec)

/-- 'culvertlaw06.TcpTurned', WHERE WHAT IT READS IS OF BULK AT MOST 1048576: true; the input reads as it did. -/
def tcpTurnedUptoRow : OpenClaim := { program := "ytjaffcbadgpolaa", sum := "928097950bdf0741bea797a75a63dc173a61659cd21269f1e63ac19ac55fbcfc", func := "culvert/culvertlaw06.TcpTurned", spec := "tcpTurned", unfollowed := true, recurses := true, apart := false, narrowed := true }
def TcpTurnedUptoSaid : Prop := tcpTurnedUptoRow.holds Try.pinned (OpenSpec.upto tcpTurnedSpec)

/-- 'culvertlaw06.TcpCalls', WHERE WHAT IT READS IS OF BULK AT MOST 1048576: true; the input reads as it did. -/
def tcpCallsUptoRow : OpenClaim := { program := "ytjaffcbadgpolaa", sum := "928097950bdf0741bea797a75a63dc173a61659cd21269f1e63ac19ac55fbcfc", func := "culvert/culvertlaw06.TcpCalls", spec := "tcpCalls", unfollowed := true, recurses := true, apart := false, narrowed := true }
def TcpCallsUptoSaid : Prop := tcpCallsUptoRow.holds Try.pinned (OpenSpec.upto tcpCallsSpec)

/-- 'culvertlaw06.TcpBack', WHERE WHAT IT READS IS OF BULK AT MOST 1048576: true; the input reads as it did. -/
def tcpBackUptoRow : OpenClaim := { program := "ytjaffcbadgpolaa", sum := "928097950bdf0741bea797a75a63dc173a61659cd21269f1e63ac19ac55fbcfc", func := "culvert/culvertlaw06.TcpBack", spec := "tcpBack", unfollowed := true, recurses := true, apart := false, narrowed := true }
def TcpBackUptoSaid : Prop := tcpBackUptoRow.holds Try.pinned (OpenSpec.upto tcpBackSpec)

/-- 'culvertlaw06.TcpParts', WHERE WHAT IT READS IS OF BULK AT MOST 1048576: true; the input reads as it did. -/
def tcpPartsUptoRow : OpenClaim := { program := "ytjaffcbadgpolaa", sum := "928097950bdf0741bea797a75a63dc173a61659cd21269f1e63ac19ac55fbcfc", func := "culvert/culvertlaw06.TcpParts", spec := "tcpParts", unfollowed := true, recurses := true, apart := false, narrowed := true }
def TcpPartsUptoSaid : Prop := tcpPartsUptoRow.holds Try.pinned (OpenSpec.upto tcpPartsSpec)

end Rows
end Go.Proofs.Ytjaffcbadgpolaa
