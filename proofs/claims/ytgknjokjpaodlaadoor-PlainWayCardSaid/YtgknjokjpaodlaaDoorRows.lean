/-
  NARROWER THAN 'FOR EVERY INPUT', by the rows' own cells (each row's printed sentence says how): PlainCloses: laid · PlainWay: laid · PlainKnown: laid.
  DERIVED. THE GIVEN ROWS OF THIS SEAT. 3 by the template 'for every input the law returns true; each argument reads behind the call as it read before'; 0 by the template 'total and deterministic' (their statements: YtgknjokjpaodlaaDoorTotals.lean).
  GIVEN WITH THE SEED: the statements are not yours to turn. If you find one false, say at which input.
  Laid BY PROGRAM, IN A SANDBOX (cutbox-rows.mjs): the forced cells as the released guide's own fill.sh prints them over the translation a11ec87f6c09a3c6… (all of the seat's roots in one cut). By AI agents, Wed Nov 11 2026. No macro, syntax, notation, axiom, sorry.
-/
import Derived.Test.YtgknjokjpaodlaaDoorChecked
import GoSem.Claim
import GoSem.ClaimJoined
import GoSem.ClaimMapViews
import Derived.JoinedTies
import Derived.KernelRfl
namespace Go.Proofs.YtgknjokjpaodlaaDoor
/- THE CELL 'sum', in the pinned program and in every row, IS THE sha256 OF THE DUMP (.gsa) THAT YtgknjokjpaodlaaDoorProg.lean LOADS. Nothing in Lean hashes anything: it is a label: what it is worth is what the hold of that sum in a sandbox is worth. -/
noncomputable def Tryd.pinned : Pinned := { name := "ytgknjokjpaodlaadoor", sum := "a11ec87f6c09a3c6ef22205ca2c04ae247c2f2698cf184e41dfde1dc6047b1b3", checked := Tryd.checked }
namespace Rows
def none {H : Type} : Left H := { results := [], args := [] }

/- WHAT THE LISTED PACKAGE-LEVEL VARIABLES READ AS WHEN THE CALL BEGINS. Each datum BY PROGRAM (the guide's laid-datum.mjs) off the statement by which the dump's own 'gosem.cut.vars' lays the variable. In a bare row this is a premise. The card (YtgknjokjpaodlaaDoorCards.lean) ties it to the program's text. -/
def laid_culvert_plain_known {H : Type} : DataW H := .slice [.lit (.int .u8 1), .lit (.int .u8 6), .lit (.int .u8 17)] []

/-- 'culvertlaw28.PlainCloses': WHATEVER THE INPUT: true; the input reads as it did. -/
def plainClosesSpec : ChangeSpec := { name := "plainCloses", fn := fun _ => fun
  | [d1, d2, d3, d4, d5] => { results := [.lit (.bool true)], args := [d1, d2, d3, d4, d5] }
  | _ => none }
def plainClosesRow : OpenClaim := { program := "ytgknjokjpaodlaadoor", sum := "a11ec87f6c09a3c6ef22205ca2c04ae247c2f2698cf184e41dfde1dc6047b1b3", func := "culvert/culvertlaw28.PlainCloses", spec := "plainCloses", unfollowed := true, recurses := true, named := ["culvert/plain.known"], apart := false, laid := [("culvert/plain.known", laid_culvert_plain_known)] }
def PlainClosesSaid : Prop := plainClosesRow.holds Tryd.pinned (OpenSpec.ofChange plainClosesSpec)

/-- ITS FALSE NEIGHBOUR: 'it returns false'. Refute it at one input. -/
def plainClosesWrong : ChangeSpec := { name := "plainCloses", fn := fun _ => fun
  | [d1, d2, d3, d4, d5] => { results := [.lit (.bool false)], args := [d1, d2, d3, d4, d5] }
  | _ => none }
def PlainClosesWrongFalsely : Prop := plainClosesRow.holds Tryd.pinned (OpenSpec.ofChange plainClosesWrong)

/-- 'culvertlaw28.PlainWay': WHATEVER THE INPUT: true; the input reads as it did. -/
def plainWaySpec : ChangeSpec := { name := "plainWay", fn := fun _ => fun
  | [d1, d2] => { results := [.lit (.bool true)], args := [d1, d2] }
  | _ => none }
def plainWayRow : OpenClaim := { program := "ytgknjokjpaodlaadoor", sum := "a11ec87f6c09a3c6ef22205ca2c04ae247c2f2698cf184e41dfde1dc6047b1b3", func := "culvert/culvertlaw28.PlainWay", spec := "plainWay", unfollowed := true, recurses := true, named := ["culvert/plain.known"], apart := false, laid := [("culvert/plain.known", laid_culvert_plain_known)] }
def PlainWaySaid : Prop := plainWayRow.holds Tryd.pinned (OpenSpec.ofChange plainWaySpec)

/-- ITS FALSE NEIGHBOUR: 'it returns false'. Refute it at one input. -/
def plainWayWrong : ChangeSpec := { name := "plainWay", fn := fun _ => fun
  | [d1, d2] => { results := [.lit (.bool false)], args := [d1, d2] }
  | _ => none }
def PlainWayWrongFalsely : Prop := plainWayRow.holds Tryd.pinned (OpenSpec.ofChange plainWayWrong)

/-- 'culvertlaw28.PlainKnown': WHATEVER THE INPUT: true; the input reads as it did. -/
def plainKnownSpec : ChangeSpec := { name := "plainKnown", fn := fun _ => fun
  | [] => { results := [.lit (.bool true)], args := [] }
  | _ => none }
def plainKnownRow : OpenClaim := { program := "ytgknjokjpaodlaadoor", sum := "a11ec87f6c09a3c6ef22205ca2c04ae247c2f2698cf184e41dfde1dc6047b1b3", func := "culvert/culvertlaw28.PlainKnown", spec := "plainKnown", unfollowed := true, recurses := true, named := ["culvert/plain.known"], apart := false, laid := [("culvert/plain.known", laid_culvert_plain_known)] }
def PlainKnownSaid : Prop := plainKnownRow.holds Tryd.pinned (OpenSpec.ofChange plainKnownSpec)

/-- ITS FALSE NEIGHBOUR: 'it returns false'. Refute it at one input. -/
def plainKnownWrong : ChangeSpec := { name := "plainKnown", fn := fun _ => fun
  | [] => { results := [.lit (.bool false)], args := [] }
  | _ => none }
def PlainKnownWrongFalsely : Prop := plainKnownRow.holds Tryd.pinned (OpenSpec.ofChange plainKnownWrong)

/- THE SECOND FORM. 'bulk': how many values and letters a reading holds, each counted each time it is reached (what is shared counts as often as it is met; a slice's spare places count too). A statement '..UptoSaid' is the law's where the arguments, and the package variables that the reading takes, are together of bulk at most 1048576: NARROWER than '..Said'. Prove '..Said' where nothing that the law and all that it calls make is longer than what came in: it says more and counts as full. Else prove '..UptoSaid'. A law counts once. -/
mutual
def uptoBulk {H : Type} : DataW H → Nat
  | .lit (.string bytes) => bytes.length + 1
  | .lit _ => 1
  | .nil => 1
  | .ptr d => uptoBulk d + 1
  | .slice elems spare => uptoBulkAll elems + uptoBulkAll spare + 1
  | .agg parts => uptoBulkAll parts + 1
  | .iface _ d => uptoBulk d + 1
  | .map entries => uptoBulkEntries entries + 1
  | .held _ => 1
def uptoBulkAll {H : Type} : List (DataW H) → Nat
  | [] => 0
  | d :: r => uptoBulk d + uptoBulkAll r
def uptoBulkEntries {H : Type} : List (Lit × DataW H) → Nat
  | [] => 0
  | x :: r => uptoBulkEntry x + uptoBulkEntries r
def uptoBulkEntry {H : Type} : Lit × DataW H → Nat
  | (.string bytes, d) => bytes.length + uptoBulk d + 1
  | (_, d) => uptoBulk d + 1
 end
def uptoSmall : (H : Type) → List (DataW H) → Bool := fun _ ds => decide (uptoBulkAll ds ≤ 1048576)
def OpenSpec.upto (s : _root_.Go.ChangeSpec) : _root_.Go.OpenSpec := { _root_.Go.OpenSpec.ofChange s with cond := some uptoSmall }

/-- 'culvertlaw28.PlainCloses', WHERE WHAT IT READS IS OF BULK AT MOST 1048576: true; the input reads as it did. -/
def plainClosesUptoRow : OpenClaim := { program := "ytgknjokjpaodlaadoor", sum := "a11ec87f6c09a3c6ef22205ca2c04ae247c2f2698cf184e41dfde1dc6047b1b3", func := "culvert/culvertlaw28.PlainCloses", spec := "plainCloses", unfollowed := true, recurses := true, named := ["culvert/plain.known"], apart := false, laid := [("culvert/plain.known", laid_culvert_plain_known)], narrowed := true }
def PlainClosesUptoSaid : Prop := plainClosesUptoRow.holds Tryd.pinned (OpenSpec.upto plainClosesSpec)

/-- 'culvertlaw28.PlainWay', WHERE WHAT IT READS IS OF BULK AT MOST 1048576: true; the input reads as it did. -/
def plainWayUptoRow : OpenClaim := { program := "ytgknjokjpaodlaadoor", sum := "a11ec87f6c09a3c6ef22205ca2c04ae247c2f2698cf184e41dfde1dc6047b1b3", func := "culvert/culvertlaw28.PlainWay", spec := "plainWay", unfollowed := true, recurses := true, named := ["culvert/plain.known"], apart := false, laid := [("culvert/plain.known", laid_culvert_plain_known)], narrowed := true }
def PlainWayUptoSaid : Prop := plainWayUptoRow.holds Tryd.pinned (OpenSpec.upto plainWaySpec)

/-- 'culvertlaw28.PlainKnown', WHERE WHAT IT READS IS OF BULK AT MOST 1048576: true; the input reads as it did. -/
def plainKnownUptoRow : OpenClaim := { program := "ytgknjokjpaodlaadoor", sum := "a11ec87f6c09a3c6ef22205ca2c04ae247c2f2698cf184e41dfde1dc6047b1b3", func := "culvert/culvertlaw28.PlainKnown", spec := "plainKnown", unfollowed := true, recurses := true, named := ["culvert/plain.known"], apart := false, laid := [("culvert/plain.known", laid_culvert_plain_known)], narrowed := true }
def PlainKnownUptoSaid : Prop := plainKnownUptoRow.holds Tryd.pinned (OpenSpec.upto plainKnownSpec)

end Rows
end Go.Proofs.YtgknjokjpaodlaaDoor
